/- Pairs in a text: the document's answer, and its laws. -/
import Derived.Test.YtkhgmmejgikgnaaDoorPB
namespace Go.Proofs.YtkhgmmejgikgnaaDoor
def plainB (c : UInt8) : Bool := (decide (97 ≤ c.toNat) && decide (c.toNat ≤ 122)) || (decide (65 ≤ c.toNat) && decide (c.toNat ≤ 90)) || (decide (48 ≤ c.toNat) && decide (c.toNat ≤ 57)) || decide (c.toNat = 45) || decide (c.toNat = 46) || decide (c.toNat = 95) || decide (c.toNat = 126)
def hexL : List UInt8 := [48, 49, 50, 51, 52, 53, 54, 55, 56, 57, 65, 66, 67, 68, 69, 70]
def hexC (n : Nat) : UInt8 := hexL.getD n 0
def escC (c : UInt8) : List UInt8 := if plainB c then [c] else [37, hexC (c.toNat / 16), hexC (c.toNat % 16)]
def escS : List UInt8 → List UInt8
  | [] => []
  | c :: r => escC c ++ escS r
/-- What a digit counts; -1: it is none. -/
def digS (c : UInt8) : Int := if 48 ≤ c.toNat ∧ c.toNat ≤ 57 then c.toNat - 48 else if 65 ≤ c.toNat ∧ c.toNat ≤ 70 then c.toNat - 55 else if 97 ≤ c.toNat ∧ c.toNat ≤ 102 then c.toNat - 87 else -1
def unS (plus : Bool) : List UInt8 → Option (List UInt8)
  | [] => some []
  | c :: r => if c.toNat = 37 then match r with
      | a :: b :: r' => if digS a < 0 ∨ digS b < 0 then none else match unS plus r' with | some l => some (UInt8.ofNat (16 * digS a + digS b).toNat :: l) | none => none
      | _ => none
    else match unS plus r with | some l => some ((if c.toNat = 43 ∧ plus = true then 32 else c) :: l) | none => none
def splitL (c : UInt8) : List UInt8 → List (List UInt8)
  | [] => [[]]
  | x :: r => if x = c then [] :: splitL c r else match splitL c r with | p :: l => (x :: p) :: l | [] => [[x]]
def piecesS (s : List UInt8) : List (List UInt8) := (splitL 38 s).filter fun p => !p.isEmpty
/-- In front of the first, behind it. -/
def cutW (c : UInt8) : List UInt8 → List UInt8 × List UInt8
  | [] => ([], [])
  | x :: r => if x = c then ([], r) else (x :: (cutW c r).1, (cutW c r).2)
structure PairS where
  name : List UInt8
  value : List UInt8
  deriving DecidableEq
def pairP (p : List UInt8) : Option PairS := match unS true (cutW 61 p).1, unS true (cutW 61 p).2 with | some n, some v => some ⟨n, v⟩ | _, _ => none
def pairsP : List (List UInt8) → Option (List PairS)
  | [] => some []
  | p :: r => match pairP p, pairsP r with | some x, some l => some (x :: l) | _, _ => none
/-- The pairs, and what is wrong: 0, 4, 25. -/
def parseS (s : List UInt8) : List PairS × Nat := if 64 < (piecesS s).length then ([], 25) else match pairsP (piecesS s) with | some l => (l, 0) | none => ([], 4)
def pairT (p : PairS) : List UInt8 := escS p.name ++ 61 :: escS p.value
def joinW (c : List UInt8) : List (List UInt8) → List UInt8
  | [] => []
  | [x] => x
  | x :: y :: l => x ++ c ++ joinW c (y :: l)
def printS (l : List PairS) : List UInt8 := joinW [38] (l.map pairT)

theorem byte_all {p : UInt8 → Prop} [DecidablePred p] (h : ∀ n : Nat, n < 256 → p (UInt8.ofNat n)) (c : UInt8) : p c := by
  have := h c.toNat c.toNat_lt
  rwa [UInt8.ofNat_toNat] at this
theorem un_one (plus : Bool) (r : List UInt8) {c : UInt8} (h : ¬ c.toNat = 37) : unS plus (c :: r) = match unS plus r with | some l => some ((if c.toNat = 43 ∧ plus = true then 32 else c) :: l) | none => none := by
  match r with
  | [] => simp [unS, h]
  | [a] => simp [unS, h]
  | a :: b :: r => simp [unS, h]
theorem un_escC (plus : Bool) (r : List UInt8) (c : UInt8) : unS plus (escC c ++ r) = match unS plus r with | some l => some (c :: l) | none => none := by
  have h1 : ∀ c : UInt8, plainB c = true → ¬ c.toNat = 37 ∧ ¬ c.toNat = 43 := byte_all (p := fun c => plainB c = true → ¬ c.toNat = 37 ∧ ¬ c.toNat = 43) (by decide +kernel)
  have h2 : ∀ c : UInt8, ¬ (digS (hexC (c.toNat / 16)) < 0 ∨ digS (hexC (c.toNat % 16)) < 0) ∧ UInt8.ofNat (16 * digS (hexC (c.toNat / 16)) + digS (hexC (c.toNat % 16))).toNat = c :=
    byte_all (p := fun c => ¬ (digS (hexC (c.toNat / 16)) < 0 ∨ digS (hexC (c.toNat % 16)) < 0) ∧ UInt8.ofNat (16 * digS (hexC (c.toNat / 16)) + digS (hexC (c.toNat % 16))).toNat = c) (by decide +kernel)
  unfold escC
  split
  · rename_i h
    obtain ⟨a, b⟩ := h1 c h
    show unS plus (c :: r) = _
    rw [un_one _ _ a, if_neg (fun h => b h.1)]
  · obtain ⟨a, b⟩ := h2 c
    simp only [List.cons_append, List.nil_append, unS, show (37 : UInt8).toNat = 37 from rfl, if_true, if_neg a, b]
theorem un_esc (plus : Bool) : ∀ s : List UInt8, unS plus (escS s) = some s
  | [] => rfl
  | c :: s => by rw [escS, un_escC, un_esc plus s]
theorem esc_no {c : UInt8} (hc : c = 38 ∨ c = 61) : ∀ s : List UInt8, c ∉ escS s
  | [], h => by cases h
  | x :: s, h => by
    have h1 : ∀ c : UInt8, 38 ∉ escC c ∧ 61 ∉ escC c := byte_all (p := fun c => 38 ∉ escC c ∧ 61 ∉ escC c) (by decide +kernel)
    rcases List.mem_append.1 h with h | h
    · rcases hc with rfl | rfl
      · exact (h1 x).1 h
      · exact (h1 x).2 h
    · exact esc_no hc s h
theorem cutW_app {c : UInt8} (b : List UInt8) : ∀ {a : List UInt8}, c ∉ a → cutW c (a ++ c :: b) = (a, b)
  | [], _ => by simp [cutW]
  | x :: a, h => by
    have h1 : ¬ x = c := fun e => h (e ▸ List.mem_cons_self ..)
    have h2 := cutW_app (c := c) b (a := a) fun e => h (List.mem_cons_of_mem _ e)
    simp [cutW, h1, h2]
theorem splitL_ne (c : UInt8) : ∀ s : List UInt8, splitL c s ≠ []
  | [] => by simp [splitL]
  | x :: r => by
    simp only [splitL]; split
    · simp
    · split <;> simp
theorem splitL_no {c : UInt8} : ∀ {a : List UInt8}, c ∉ a → splitL c a = [a]
  | [], _ => rfl
  | x :: a, h => by
    have h1 : ¬ x = c := fun e => h (e ▸ List.mem_cons_self ..)
    have h2 := splitL_no (c := c) (a := a) fun e => h (List.mem_cons_of_mem _ e)
    simp [splitL, h1, h2]
theorem splitL_app {c : UInt8} (b : List UInt8) : ∀ {a : List UInt8}, c ∉ a → splitL c (a ++ c :: b) = a :: splitL c b
  | [], _ => by simp [splitL]
  | x :: a, h => by
    have h1 : ¬ x = c := fun e => h (e ▸ List.mem_cons_self ..)
    have h2 := splitL_app (c := c) b (a := a) fun e => h (List.mem_cons_of_mem _ e)
    simp [splitL, h1, h2]
theorem pairT_no (p : PairS) : 38 ∉ pairT p := by
  intro h
  simp only [pairT, List.mem_append, List.mem_cons] at h
  rcases h with h | h | h
  · exact esc_no (.inl rfl) _ h
  · revert h; decide
  · exact esc_no (.inl rfl) _ h
theorem pairT_ne (p : PairS) : (pairT p).isEmpty = false := by simp [pairT]
theorem split_print : ∀ (p : PairS) (l : List PairS), splitL 38 (joinW [38] ((p :: l).map pairT)) = (p :: l).map pairT
  | p, [] => by simp [joinW, splitL_no (pairT_no p)]
  | p, q :: l => by
    have := split_print q l
    simp only [List.map_cons, joinW, List.append_assoc, List.singleton_append] at this ⊢
    rw [splitL_app _ (pairT_no p), this]
theorem pairP_text (p : PairS) : pairP (pairT p) = some p := by
  simp only [pairP, pairT, cutW_app _ (esc_no (.inr rfl) p.name), un_esc]
theorem pairsP_text : ∀ l : List PairS, pairsP (l.map pairT) = some l
  | [] => rfl
  | p :: l => by simp only [List.map_cons, pairsP, pairP_text, pairsP_text l]
theorem pieces_print : ∀ l : List PairS, piecesS (printS l) = l.map pairT
  | [] => rfl
  | p :: l => by
    unfold piecesS printS
    rw [split_print, List.filter_eq_self]
    intro x hx
    obtain ⟨q, _, rfl⟩ := List.mem_map.1 hx
    simp [pairT_ne]
theorem parse_print {l : List PairS} (h : l.length ≤ 64) : parseS (printS l) = (l, 0) := by
  unfold parseS
  rw [pieces_print, if_neg (by simpa using h), pairsP_text]
/-- Many pieces, empty ones between. -/
def mostT (empty : Nat) : Nat → List UInt8
  | 0 => []
  | n + 1 => 97 :: 38 :: (List.replicate empty 38 ++ mostT empty n)
theorem pieces_38 (s : List UInt8) : piecesS (38 :: s) = piecesS s := by simp [piecesS, splitL]
theorem pieces_38s (s : List UInt8) : ∀ n : Nat, piecesS (List.replicate n 38 ++ s) = piecesS s
  | 0 => rfl
  | n + 1 => by rw [List.replicate_succ, List.cons_append, pieces_38, pieces_38s s n]
theorem pieces_most (empty : Nat) : ∀ n : Nat, piecesS (mostT empty n) = List.replicate n [97]
  | 0 => rfl
  | n + 1 => by
    have : ∀ s, piecesS (97 :: 38 :: s) = [97] :: piecesS s := fun s => by simp [piecesS, splitL]
    rw [mostT, this, pieces_38s, pieces_most empty n, List.replicate_succ]
theorem pairsP_most : ∀ n : Nat, pairsP (List.replicate n [97]) = some (List.replicate n ⟨[97], []⟩)
  | 0 => rfl
  | n + 1 => by rw [List.replicate_succ, pairsP, pairsP_most n]; rfl
theorem parse_most (empty n : Nat) : parseS (mostT empty n) = if 64 < n then ([], 25) else (List.replicate n ⟨[97], []⟩, 0) := by
  unfold parseS
  rw [pieces_most, List.length_replicate, pairsP_most]
end Go.Proofs.YtkhgmmejgikgnaaDoor
