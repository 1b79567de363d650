/- Texts of this proof, one behind the other: QueL QueA QueB QueC QueS QueD QueE QueF. No statement of the seat is proved here. -/
import Derived.Test.YtkhgmmejgikgnaaDoorPB
import Derived.Test.YtkhgmmejgikgnaaDoorGB
import Derived.Test.YtkhgmmejgikgnaaDoorGC
import Derived.Lib.SplitLaws
import Derived.Lib.Join

/- Pairs in a text: the document's answer, and its laws. -/
namespace Go.Proofs.YtkhgmmejgikgnaaDoor
def plainB (c : UInt8) : Bool := (decide (97 ≤ c.toNat) && decide (c.toNat ≤ 122)) || (decide (65 ≤ c.toNat) && decide (c.toNat ≤ 90)) || (decide (48 ≤ c.toNat) && decide (c.toNat ≤ 57)) || decide (c.toNat = 45) || decide (c.toNat = 46) || decide (c.toNat = 95) || decide (c.toNat = 126)
def hexL : List UInt8 := [48, 49, 50, 51, 52, 53, 54, 55, 56, 57, 65, 66, 67, 68, 69, 70]
def hexC (n : Nat) : UInt8 := hexL.getD n 0
def escC (c : UInt8) : List UInt8 := if plainB c then [c] else [37, hexC (c.toNat / 16), hexC (c.toNat % 16)]
def escS : List UInt8 → List UInt8
  | [] => []
  | c :: r => escC c ++ escS r
/-- What a digit counts; -1: it is none. -/
def digS (c : UInt8) : Int := if 48 ≤ c.toNat ∧ c.toNat ≤ 57 then c.toNat - 48 else if 65 ≤ c.toNat ∧ c.toNat ≤ 70 then c.toNat - 55 else if 97 ≤ c.toNat ∧ c.toNat ≤ 102 then c.toNat - 87 else -1
def unS (plus : Bool) : List UInt8 → Option (List UInt8)
  | [] => some []
  | c :: r => if c.toNat = 37 then match r with
      | a :: b :: r' => if digS a < 0 ∨ digS b < 0 then none else match unS plus r' with | some l => some (UInt8.ofNat (16 * digS a + digS b).toNat :: l) | none => none
      | _ => none
    else match unS plus r with | some l => some ((if c.toNat = 43 ∧ plus = true then 32 else c) :: l) | none => none
def splitL (c : UInt8) : List UInt8 → List (List UInt8)
  | [] => [[]]
  | x :: r => if x = c then [] :: splitL c r else match splitL c r with | p :: l => (x :: p) :: l | [] => [[x]]
def piecesS (s : List UInt8) : List (List UInt8) := (splitL 38 s).filter fun p => !p.isEmpty
/-- In front of the first, behind it. -/
def cutW (c : UInt8) : List UInt8 → List UInt8 × List UInt8
  | [] => ([], [])
  | x :: r => if x = c then ([], r) else (x :: (cutW c r).1, (cutW c r).2)
structure PairS where
  name : List UInt8
  value : List UInt8
  deriving DecidableEq
def pairP (p : List UInt8) : Option PairS := match unS true (cutW 61 p).1, unS true (cutW 61 p).2 with | some n, some v => some ⟨n, v⟩ | _, _ => none
def pairsP : List (List UInt8) → Option (List PairS)
  | [] => some []
  | p :: r => match pairP p, pairsP r with | some x, some l => some (x :: l) | _, _ => none
/-- The pairs, and what is wrong: 0, 4, 25. -/
def parseS (s : List UInt8) : List PairS × Nat := if 64 < (piecesS s).length then ([], 25) else match pairsP (piecesS s) with | some l => (l, 0) | none => ([], 4)
def pairT (p : PairS) : List UInt8 := escS p.name ++ 61 :: escS p.value
def joinW (c : List UInt8) : List (List UInt8) → List UInt8
  | [] => []
  | [x] => x
  | x :: y :: l => x ++ c ++ joinW c (y :: l)
def printS (l : List PairS) : List UInt8 := joinW [38] (l.map pairT)

theorem byte_all {p : UInt8 → Prop} [DecidablePred p] (h : ∀ n : Nat, n < 256 → p (UInt8.ofNat n)) (c : UInt8) : p c := by
  have := h c.toNat c.toNat_lt
  rwa [UInt8.ofNat_toNat] at this
theorem un_one (plus : Bool) (r : List UInt8) {c : UInt8} (h : ¬ c.toNat = 37) : unS plus (c :: r) = match unS plus r with | some l => some ((if c.toNat = 43 ∧ plus = true then 32 else c) :: l) | none => none := by
  match r with
  | [] => simp [unS, h]
  | [a] => simp [unS, h]
  | a :: b :: r => simp [unS, h]
theorem un_escC (plus : Bool) (r : List UInt8) (c : UInt8) : unS plus (escC c ++ r) = match unS plus r with | some l => some (c :: l) | none => none := by
  have h1 : ∀ c : UInt8, plainB c = true → ¬ c.toNat = 37 ∧ ¬ c.toNat = 43 := byte_all (p := fun c => plainB c = true → ¬ c.toNat = 37 ∧ ¬ c.toNat = 43) (by decide +kernel)
  have h2 : ∀ c : UInt8, ¬ (digS (hexC (c.toNat / 16)) < 0 ∨ digS (hexC (c.toNat % 16)) < 0) ∧ UInt8.ofNat (16 * digS (hexC (c.toNat / 16)) + digS (hexC (c.toNat % 16))).toNat = c :=
    byte_all (p := fun c => ¬ (digS (hexC (c.toNat / 16)) < 0 ∨ digS (hexC (c.toNat % 16)) < 0) ∧ UInt8.ofNat (16 * digS (hexC (c.toNat / 16)) + digS (hexC (c.toNat % 16))).toNat = c) (by decide +kernel)
  unfold escC
  split
  · rename_i h
    obtain ⟨a, b⟩ := h1 c h
    show unS plus (c :: r) = _
    rw [un_one _ _ a, if_neg (fun h => b h.1)]
  · obtain ⟨a, b⟩ := h2 c
    simp only [List.cons_append, List.nil_append, unS, show (37 : UInt8).toNat = 37 from rfl, if_true, if_neg a, b]
theorem un_esc (plus : Bool) : ∀ s : List UInt8, unS plus (escS s) = some s
  | [] => rfl
  | c :: s => by rw [escS, un_escC, un_esc plus s]
theorem esc_no {c : UInt8} (hc : c = 38 ∨ c = 61) : ∀ s : List UInt8, c ∉ escS s
  | [], h => by cases h
  | x :: s, h => by
    have h1 : ∀ c : UInt8, 38 ∉ escC c ∧ 61 ∉ escC c := byte_all (p := fun c => 38 ∉ escC c ∧ 61 ∉ escC c) (by decide +kernel)
    rcases List.mem_append.1 h with h | h
    · rcases hc with rfl | rfl
      · exact (h1 x).1 h
      · exact (h1 x).2 h
    · exact esc_no hc s h
theorem cutW_app {c : UInt8} (b : List UInt8) : ∀ {a : List UInt8}, c ∉ a → cutW c (a ++ c :: b) = (a, b)
  | [], _ => by simp [cutW]
  | x :: a, h => by
    have h1 : ¬ x = c := fun e => h (e ▸ List.mem_cons_self ..)
    have h2 := cutW_app (c := c) b (a := a) fun e => h (List.mem_cons_of_mem _ e)
    simp [cutW, h1, h2]
theorem splitL_ne (c : UInt8) : ∀ s : List UInt8, splitL c s ≠ []
  | [] => by simp [splitL]
  | x :: r => by
    simp only [splitL]; split
    · simp
    · split <;> simp
theorem splitL_no {c : UInt8} : ∀ {a : List UInt8}, c ∉ a → splitL c a = [a]
  | [], _ => rfl
  | x :: a, h => by
    have h1 : ¬ x = c := fun e => h (e ▸ List.mem_cons_self ..)
    have h2 := splitL_no (c := c) (a := a) fun e => h (List.mem_cons_of_mem _ e)
    simp [splitL, h1, h2]
theorem splitL_app {c : UInt8} (b : List UInt8) : ∀ {a : List UInt8}, c ∉ a → splitL c (a ++ c :: b) = a :: splitL c b
  | [], _ => by simp [splitL]
  | x :: a, h => by
    have h1 : ¬ x = c := fun e => h (e ▸ List.mem_cons_self ..)
    have h2 := splitL_app (c := c) b (a := a) fun e => h (List.mem_cons_of_mem _ e)
    simp [splitL, h1, h2]
theorem pairT_no (p : PairS) : 38 ∉ pairT p := by
  intro h
  simp only [pairT, List.mem_append, List.mem_cons] at h
  rcases h with h | h | h
  · exact esc_no (.inl rfl) _ h
  · revert h; decide
  · exact esc_no (.inl rfl) _ h
theorem pairT_ne (p : PairS) : (pairT p).isEmpty = false := by simp [pairT]
theorem split_print : ∀ (p : PairS) (l : List PairS), splitL 38 (joinW [38] ((p :: l).map pairT)) = (p :: l).map pairT
  | p, [] => by simp [joinW, splitL_no (pairT_no p)]
  | p, q :: l => by
    have := split_print q l
    simp only [List.map_cons, joinW, List.append_assoc, List.singleton_append] at this ⊢
    rw [splitL_app _ (pairT_no p), this]
theorem pairP_text (p : PairS) : pairP (pairT p) = some p := by
  simp only [pairP, pairT, cutW_app _ (esc_no (.inr rfl) p.name), un_esc]
theorem pairsP_text : ∀ l : List PairS, pairsP (l.map pairT) = some l
  | [] => rfl
  | p :: l => by simp only [List.map_cons, pairsP, pairP_text, pairsP_text l]
theorem pieces_print : ∀ l : List PairS, piecesS (printS l) = l.map pairT
  | [] => rfl
  | p :: l => by
    unfold piecesS printS
    rw [split_print, List.filter_eq_self]
    intro x hx
    obtain ⟨q, _, rfl⟩ := List.mem_map.1 hx
    simp [pairT_ne]
theorem parse_print {l : List PairS} (h : l.length ≤ 64) : parseS (printS l) = (l, 0) := by
  unfold parseS
  rw [pieces_print, if_neg (by simpa using h), pairsP_text]
/-- Many pieces, empty ones between. -/
def mostT (empty : Nat) : Nat → List UInt8
  | 0 => []
  | n + 1 => 97 :: 38 :: (List.replicate empty 38 ++ mostT empty n)
theorem pieces_38 (s : List UInt8) : piecesS (38 :: s) = piecesS s := by simp [piecesS, splitL]
theorem pieces_38s (s : List UInt8) : ∀ n : Nat, piecesS (List.replicate n 38 ++ s) = piecesS s
  | 0 => rfl
  | n + 1 => by rw [List.replicate_succ, List.cons_append, pieces_38, pieces_38s s n]
theorem pieces_most (empty : Nat) : ∀ n : Nat, piecesS (mostT empty n) = List.replicate n [97]
  | 0 => rfl
  | n + 1 => by
    have : ∀ s, piecesS (97 :: 38 :: s) = [97] :: piecesS s := fun s => by simp [piecesS, splitL]
    rw [mostT, this, pieces_38s, pieces_most empty n, List.replicate_succ]
theorem pairsP_most : ∀ n : Nat, pairsP (List.replicate n [97]) = some (List.replicate n ⟨[97], []⟩)
  | 0 => rfl
  | n + 1 => by rw [List.replicate_succ, pairsP, pairsP_most n]; (first | done | rfl)
theorem parse_most (empty n : Nat) : parseS (mostT empty n) = if 64 < n then ([], 25) else (List.replicate n ⟨[97], []⟩, 0) := by
  unfold parseS
  rw [pieces_most, List.length_replicate, pairsP_most]
end Go.Proofs.YtkhgmmejgikgnaaDoor

/- Layer 5 (query), walked: what is escaped, what is unescaped; the program's functions and the document's. -/
namespace Go.Proofs.YtkhgmmejgikgnaaDoor
open Go.RowKit

theorem maxLen_big : 200000 ≤ maxLen := by decide
theorem br_t {b : Bool} {X Y : Prop} (h : b = true) (x : X) : Branch X Y b := by subst h; exact x
theorem br_f {b : Bool} {X Y : Prop} (h : b = false) (y : Y) : Branch X Y b := by subst h; exact y
theorem byteAt_get {s : List UInt8} {i : Nat} {c : UInt8} (h : s[i]? = some c) : byteAt s i = c.toNat := by unfold byteAt; rw [h]; (first | done | rfl)
theorem take_snoc {s : List UInt8} {i : Nat} {c : UInt8} (h : s[i]? = some c) : s.take (i + 1) = s.take i ++ [c] := by rw [List.take_add_one, h]; (first | done | rfl)
theorem short_x (s : List UInt8) (n : Nat) (W : PW) : CallsX Tryd.prog 14 ⟨[strV s, .int .i64 n]⟩ [] W fun v _ => v = strV (s.take n) := by
  refine pureX hmix Tryd.func14 r14 (by kernel_rfl) [strV s, .int .i64 n] rfl ?_
  refine ⟨rfl, br_split (fun h => ?_) (fun h => ?_)⟩
  · have h : (n : Int) < s.length := h
    refine ⟨⟨by decide, by omega, by show (n : Int) ≤ (s.length : Int); omega⟩, ret_plain rfl fun _ _ => ?_⟩
    simp [strV]
  · have h : ¬ (n : Int) < s.length := h
    exact ret_plain rfl fun _ _ => by rw [List.take_of_length_le (by omega)]; (first | done | rfl)
theorem within_x (x : Int) (lo hi : Int) (W : PW) : CallsX Tryd.prog 19 ⟨[.int .i64 x, .int .i64 lo, .int .i64 hi]⟩ [] W fun v _ => v = .int .i64 (if x < lo then lo else if hi < x then hi else x) := by
  refine pureX hmix Tryd.func19 r19 (by kernel_rfl) [.int .i64 x, .int .i64 lo, .int .i64 hi] rfl ?_
  refine ⟨rfl, ?_⟩
  apply br_split
  · intro h
    have h : x < lo := h
    exact ret_plain rfl fun _ _ => by rw [if_pos h]; (first | done | rfl)
  intro h
  have h : ¬ x < lo := h
  refine ⟨rfl, ?_⟩
  apply br_split
  · intro h2
    have h2 : hi < x := h2
    exact ret_plain rfl fun _ _ => by rw [if_neg h, if_pos h2]; (first | done | rfl)
  · intro h2
    have h2 : ¬ hi < x := h2
    exact ret_plain rfl fun _ _ => by rw [if_neg h, if_neg h2]; (first | done | rfl)

/-! ## Bytes -/
set_option maxHeartbeats 4000000 in
theorem plain_x (c : UInt8) (W : PW) : CallsX Tryd.prog 67 ⟨[.int .u8 c.toNat]⟩ [] W fun v _ => v = .bool (plainB c) := by
  refine pureX hmix Tryd.func67 r67 (by kernel_rfl) [.int .u8 c.toNat] rfl ?_
  have key : ∀ b : Bool, plainB c = b → (Value.bool b = .bool (plainB c)) := fun b h => by rw [h]
  unfold plainB at key ⊢
  obtain ⟨n, hn⟩ : ∃ n, c.toNat = n := ⟨_, rfl⟩
  rw [hn] at key ⊢
  refine ⟨rfl, ?_⟩
  repeat' first
    | refine ret_plain rfl fun _ _ => ?_
    | refine ⟨rfl, ?_⟩
    | refine br_split (fun h => ?_) (fun h => ?_)
  all_goals (congr 1; rw [Bool.eq_iff_iff]; simp at *; omega)
set_option maxHeartbeats 4000000 in
theorem refplain_x (c : UInt8) (W : PW) : CallsX Tryd.prog 68 ⟨[.int .u8 c.toNat]⟩ [] W fun v _ => v = .bool (plainB c) := by
  refine pureX hmix Tryd.func68 r68 (by kernel_rfl) [.int .u8 c.toNat] rfl ?_
  unfold plainB
  obtain ⟨n, hn⟩ : ∃ n, c.toNat = n := ⟨_, rfl⟩
  rw [hn]
  refine ⟨rfl, ?_⟩
  repeat' first
    | refine ret_plain rfl fun _ _ => ?_
    | refine ⟨rfl, ?_⟩
    | refine br_split (fun h => ?_) (fun h => ?_)
  all_goals (congr 1; rw [Bool.eq_iff_iff]; simp at *; omega)
theorem digS_idx (c : UInt8) : Lib.indexByte hexL c = if 97 ≤ c.toNat ∧ c.toNat ≤ 102 then -1 else digS c :=
  byte_all (p := fun c => Lib.indexByte hexL c = if 97 ≤ c.toNat ∧ c.toNat ≤ 102 then -1 else digS c) (by decide +kernel) c
theorem digS_low (c : UInt8) (h : 97 ≤ c.toNat ∧ c.toNat ≤ 102) : Lib.indexByte hexL ((c.toNat : Int) - 32).toNat.toUInt8 = digS c :=
  byte_all (p := fun c => 97 ≤ c.toNat ∧ c.toNat ≤ 102 → Lib.indexByte hexL ((c.toNat : Int) - 32).toNat.toUInt8 = digS c) (by decide +kernel) c h
theorem digit_x (c : UInt8) (W : PW) : CallsX Tryd.prog 64 ⟨[.int .u8 c.toNat]⟩ [] W fun v _ => v = .int .i64 (digS c) := by
  refine pureX hmix Tryd.func64 r64 (by kernel_rfl) [.int .u8 c.toNat] rfl ?_
  have hidx : ∀ (n : Int) (W' : PW), CallsX Tryd.prog 110 ⟨[strV hexL, .int .u8 n]⟩ [] W' fun v _ => v = .int .i64 (Lib.indexByte hexL n.toNat.toUInt8) := fun n W' =>
    CallsX.of_same (v := .int .i64 (Lib.indexByte hexL n.toNat.toUInt8)) ⟨_, Tryd.func110, by kernel_rfl, by kernel_rfl⟩ (Tryd.strings_IndexByte ⟨⟨hexL⟩⟩ n W'.w)
  have ecast : ∀ n : Nat, ((n : Int)).toNat.toUInt8 = n.toUInt8 := fun n => by simp
  have eb : c.toNat.toUInt8 = c := by simp
  refine ⟨rfl, ?_⟩
  apply br_split
  · intro h1
    have h1 : (97 : Int) ≤ (c.toNat : Int) := h1
    refine ⟨rfl, br_split (fun h2 => ?_) (fun h2 => ?_)⟩
    · have h2 : (c.toNat : Int) ≤ 102 := h2
      refine ⟨rfl, _, (u8_in ((c.toNat : Int) - 32) ⟨by omega, by omega⟩).symm, ?_⟩
      refine call_v rfl (fun W' _ => hidx _ W') (fun W1 v W2 _ _ hv => ?_)
      subst hv
      exact ret_plain rfl fun _ _ => by rw [digS_low c ⟨by omega, by omega⟩]
    · have h2 : ¬ (c.toNat : Int) ≤ 102 := h2
      refine call_v rfl (fun W' _ => hidx _ W') (fun W1 v W2 _ _ hv => ?_)
      rw [ecast, eb, digS_idx, if_neg (by omega)] at hv
      subst hv
      exact ret_plain rfl fun _ _ => rfl
  · intro h1
    have h1 : ¬ (97 : Int) ≤ (c.toNat : Int) := h1
    refine call_v rfl (fun W' _ => hidx _ W') (fun W1 v W2 _ _ hv => ?_)
    rw [ecast, eb, digS_idx, if_neg (by omega)] at hv
    subst hv
    exact ret_plain rfl fun _ _ => rfl
theorem refdigit_x (c : UInt8) (W : PW) : CallsX Tryd.prog 66 ⟨[.int .u8 c.toNat]⟩ [] W fun v _ => v = .int .i64 (digS c) := by
  refine pureX hmix Tryd.func66 r66 (by kernel_rfl) [.int .u8 c.toNat] rfl ?_
  unfold digS
  have hb := c.toNat_lt
  obtain ⟨n, hn⟩ : ∃ n, c.toNat = n := ⟨_, rfl⟩
  rw [hn] at hb ⊢
  have w : ∀ k : Int, k ≤ n → 0 ≤ k → IntKind.i64.wrap ((n : Int) - k) = (n : Int) - k := fun k h1 h2 => i64_in _ ⟨by omega, by omega⟩
  have w0 : IntKind.i64.wrap (n : Int) = n := i64_in _ ⟨by omega, by omega⟩
  refine ⟨rfl, ?_⟩
  repeat' first
    | refine ret_plain rfl fun _ _ => ?_
    | refine ⟨_, w0.symm, rfl, _, (w _ (by omega) (by decide)).symm, ?_⟩
    | refine ⟨rfl, ?_⟩
    | refine br_split (fun h => ?_) (fun h => ?_)
  all_goals (congr 1; simp at *; (repeat' split) <;> omega)
/-! ## A byte written -/
section
variable {B : Base} {σ : List (List PV)} {O : List Own} {W : PW} {K : GV → GS → Prop}
theorem bld_wbyte {i j b : Nat} {p v : Value} {l : List UInt8} {n : Int} (c : UInt8) (hn : n = c.toNat) (hi : O[i]? = some (bldO b p v)) (hj : O[j]? = some (bufO v l)) (hij : i ≠ j) (hu : Used b p) (hlen : l.length + 1 ≤ 100000000)
    (hK : ∀ A d W', W.Le W' → K (.v .nilIface) ⟨σ, (O.set i (bldO b (bldP b) (.slice A (l ++ [c]).length d))).set j (bufO (.slice A (l ++ [c]).length d) (l ++ [c])), W'⟩) :
    CallVC Tryd.prog B 63 [.v (bldP b), .v (.int .u8 n)] [] ⟨σ, O, W⟩ K := by
  subst hn
  have hil := (List.getElem?_eq_some_iff.1 hi).1
  refine call_inl (vs := [bldP b, .int .u8 c.toNat]) hmix Tryd.func63 r63 (by kernel_rfl) rfl rfl fun rc => ?_
  refine bld_check hi hu ?_
  have hi1 : (O.set i (bldO b (bldP b) v))[i]? = some (bldO b (bldP b) v) := List.getElem?_set_self hil
  have hj1 : (O.set i (bldO b (bldP b) v))[j]? = some (bufO v l) := by rw [List.getElem?_set_ne hij]; exact hj
  refine ⟨v, .inr ⟨i, bldO b (bldP b) v, ⟨b, 0, none⟩, 2, 2, 1, hi1, rfl, rfl, rfl⟩, rfl, .inl fun g W1 l1 hr => ?_⟩
  have hm : (100000000 : Nat) ≤ maxLen := by decide
  refine ⟨j, bufO v l, [byteV c], hj1, rfl, rfl, rfl, rfl, fun u hu => by rw [List.mem_singleton.1 hu]; (first | done | rfl), fun _ => ⟨_, rfl, hr.o⟩, by show l.length + 1 ≤ _; omega, by show (l.length + 1) * 1 ≤ _; omega, rfl, @fun A d _ => ?_⟩
  have hi2 : ((O.set i (bldO b (bldP b) v)).set j ⟨.slice A ((bufO v l).n + 1) d, 5, 1, (bufO v l).n + 1, (bufO v l).cs ++ [byteV c]⟩)[i]? = some (bldO b (bldP b) v) := by rw [List.getElem?_set_ne (Ne.symm hij)]; exact hi1
  refine ⟨i, bldO b (bldP b) v, ⟨b, 0, none⟩, 2, 2, 1, hi2, rfl, rfl, rfl, fun u hu => ?_, Nat.le_refl 2, rfl, ?_⟩
  · rw [List.mem_singleton.1 hu]; (first | done | rfl)
  refine ⟨_, rfl, ?_⟩
  have h := hK A d W1 l1
  rw [List.length_append] at h
  have e : bufO (.slice A (l.length + 1) d) (l ++ [c]) = ⟨.slice A (l.length + 1) d, 5, 1, l.length + 1, l.map byteV ++ [byteV c]⟩ := by
    unfold bufO
    rw [List.length_append, List.map_append]; (first | done | rfl)
  rw [show [c].length = 1 from rfl, e, ← set3 hij (bldO b (bldP b) v)] at h
  exact h
end
end Go.Proofs.YtkhgmmejgikgnaaDoor

/- Layer 5 (query), walked: texts escaped and unescaped. -/
namespace Go.Proofs.YtkhgmmejgikgnaaDoor
open Go.RowKit

/-! ## Small laws -/
structure BSt where
  i : Nat
  p : Value
  A : Option Addr
  c : Nat
  l : List UInt8
def bO (b : Nat) (t : BSt) : List Own := [bufO (.slice t.A t.l.length t.c) t.l, bldO b t.p (.slice t.A t.l.length t.c)]
def NilIff (A : Option Addr) (c : Nat) (l : List UInt8) : Prop := l = [] → A = none ∧ c = 0
theorem NilIff.snoc (A : Option Addr) (c : Nat) (l : List UInt8) (x : UInt8) : NilIff A c (l ++ [x]) := fun h => by simp at h
theorem bld_info : ∃ i z, Tryd.prog.info? 99 = some i ∧ i.zero = some z ∧ z.cells.toList = [.pointer none, .slice none 0 0] := by
  have h : ((Tryd.prog.info? 99).bind fun i => i.zero.map fun z => z.cells.toList) = some [.pointer none, .slice none 0 0] := by kernel_rfl
  obtain ⟨i, hi, h⟩ := Option.bind_eq_some_iff.1 h
  obtain ⟨z, hz, h⟩ := Option.map_eq_some_iff.1 h
  exact ⟨i, z, hi, hz, h⟩
theorem drop_q {s : List UInt8} {i : Nat} {c : UInt8} (h : s[i]? = some c) : s.drop i = c :: s.drop (i + 1) := by
  have h1 := (List.getElem?_eq_some_iff.1 h).1
  rw [List.drop_eq_getElem_cons h1, (List.getElem?_eq_some_iff.1 h).2]
theorem getD_q {s : List UInt8} {i : Nat} {c : UInt8} (h : s[i]? = some c) : (s[i]?).getD 0 = c := by rw [h]; (first | done | rfl)
theorem at_q {s : List UInt8} {i : Nat} (h : i < s.length) : ∃ c, s[i]? = some c := ⟨_, List.getElem?_eq_getElem h⟩
theorem shr4 (c : UInt8) : ((c.toNat / 16 : Nat) : Int) = shV .shr .u8 c.toNat 4 :=
  byte_all (p := fun c => ((c.toNat / 16 : Nat) : Int) = shV .shr .u8 c.toNat 4) (by decide +kernel) c
theorem and15 (c : UInt8) : Op.intBits .and .u8 c.toNat 15 = pure (.int .u8 ((c.toNat % 16 : Nat) : Int)) := by
  have h : IntKind.u8.wrap (BitVec.ofInt 8 c.toNat &&& BitVec.ofInt 8 15).toNat = ((c.toNat % 16 : Nat) : Int) :=
    byte_all (p := fun c => IntKind.u8.wrap (BitVec.ofInt 8 c.toNat &&& BitVec.ofInt 8 15).toNat = ((c.toNat % 16 : Nat) : Int)) (by decide +kernel) c
  show pure (Value.int .u8 (IntKind.u8.wrap (BitVec.ofInt 8 c.toNat &&& BitVec.ofInt 8 15).toNat)) = _
  rw [h]
theorem shl16 {n : Nat} (h : n < 16) : ((16 * n : Nat) : Int) = shV .shl .i64 n 4 := by
  have : ∀ n : Nat, n < 16 → ((16 * n : Nat) : Int) = shV .shl .i64 n 4 := by decide +kernel
  exact this n h
theorem or16 {a b : Nat} (ha : a < 16) (hb : b < 16) : Op.intBits .or .i64 ((16 * a : Nat) : Int) b = pure (.int .i64 ((16 * a + b : Nat) : Int)) := by
  have h : ∀ a : Nat, a < 16 → ∀ b : Nat, b < 16 → IntKind.i64.wrap (BitVec.ofInt 64 ((16 * a : Nat) : Int) ||| BitVec.ofInt 64 b).toNat = ((16 * a + b : Nat) : Int) := by decide +kernel
  show pure (Value.int .i64 (IntKind.i64.wrap (BitVec.ofInt 64 ((16 * a : Nat) : Int) ||| BitVec.ofInt 64 b).toNat)) = _
  rw [h a ha b hb]
theorem hex_at (n : Nat) : byteAt hexL n = (hexC n).toNat := by unfold byteAt hexC; rw [List.getD_eq_getElem?_getD]
theorem escS_app (a b : List UInt8) : escS (a ++ b) = escS a ++ escS b := by
  induction a with
  | nil => rfl
  | cons x a ih => simp only [List.cons_append, escS, ih, List.append_assoc]
theorem esc_take {s : List UInt8} {i : Nat} {c : UInt8} (h : s[i]? = some c) : escS (s.take (i + 1)) = escS (s.take i) ++ escC c := by
  rw [take_snoc h, escS_app]; simp [escS]
theorem escC_len (c : UInt8) : (escC c).length ≤ 3 := by unfold escC; split <;> simp
theorem escS_len : ∀ s : List UInt8, (escS s).length ≤ 3 * s.length
  | [] => Nat.zero_le _
  | c :: r => by
    have h1 := escC_len c
    have h2 := escS_len r
    simp only [escS, List.length_append, List.length_cons]; omega
theorem esc_len {s : List UInt8} (i : Nat) : (escS (s.take i)).length ≤ 3 * i := by
  have := escS_len (s.take i)
  rw [List.length_take] at this; omega

/-! ## Escaped -/
set_option maxHeartbeats 8000000 in
theorem escape_x (s : List UInt8) (hs : s.length ≤ 1000000) (W : PW) : CallsX Tryd.prog 24 ⟨[strV s]⟩ [] W fun v _ => v = strV (escS s) := by
  refine pureNX hmix Tryd.func24 r24 (by kernel_rfl) [nilO 5 1] rfl [strV s] rfl ?_
  obtain ⟨ti, tz, e1, e2, e3⟩ := bld_info
  refine bld_alloc rfl e1 e2 e3 fun b _ => ?_
  refine ⟨BSt, fun t => [(7, .v (.int .i64 t.i))], fun _ => [], bO b, fun t _ => Used b t.p ∧ t.i ≤ s.length ∧ t.l = escS (s.take t.i) ∧ NilIff t.A t.c t.l, fun t => s.length - t.i, ⟨0, .pointer none, none, 0, []⟩,
    all_sl ⟨rfl, trivial⟩, rfl, ole_refl _, ⟨.inl rfl, Nat.zero_le _, rfl, fun _ => ⟨rfl, rfl⟩⟩, loopOK (fun _ => ⟨⟨trivial, rfl⟩, trivial⟩) (fun _ => rfl) (fun _ => rfl), ?_⟩
  rintro ⟨i, p, A, c, l⟩ W5 l5 ⟨hu, hi, hl, hnil⟩ fr
  dsimp only at hu hi hl hnil
  have hll : l.length ≤ 3 * i := by rw [hl]; exact esc_len i
  refine ⟨rfl, br_split (fun hq => ?_) (fun hq => ?_)⟩
  · have hq : (i : Int) < s.length := hq
    obtain ⟨x, hx⟩ := at_q (s := s) (i := i) (by omega)
    have hb : byteAt s (i : Int).toNat = x.toNat := byteAt_get hx
    have hne := esc_take hx
    have inc := (i64_in ((i : Int) + 1) ⟨by omega, by omega⟩).symm
    refine ⟨⟨by omega, hq⟩, ?_⟩
    refine call_v rfl (fun W' _ => plain_x ((s[i]?).getD 0) W') (fun W1 v W2 _ _ hv => ?_)
    rw [getD_q hx] at hv
    obtain ⟨w, hw, rfl⟩ : ∃ w, plainB x = w ∧ v = .bool w := ⟨_, rfl, hv⟩
    unfold escC at hne
    rw [hw] at hne
    cases w with
    | true =>
      refine ⟨⟨by omega, hq⟩, ?_⟩
      refine bld_wbyte (i := 1) (j := 0) x hb rfl rfl (by decide) hu (by show l.length + 1 ≤ _; omega) fun A1 d1 W3 _ => ?_
      refine ⟨rfl, _, inc, ⟨i + 1, bldP b, A1, d1, l ++ [x]⟩, all_sl ⟨rfl, trivial⟩, rfl, ole_refl _, ⟨.inr rfl, by dsimp only; omega, by dsimp only; rw [hne, hl]; (first | done | rfl), NilIff.snoc _ _ _ _⟩, by dsimp only; omega⟩
    | false =>
      refine bld_wbyte (i := 1) (j := 0) 37 rfl rfl rfl (by decide) hu (by show l.length + 1 ≤ _; omega) fun A1 d1 W3 _ => ?_
      have l1 : (l ++ [37]).length ≤ 3 * i + 1 := by simp; omega
      have hxl := x.toNat_lt
      refine ⟨⟨by omega, hq⟩, by decide, ((x.toNat / 16 : Nat) : Int), (by rw [hb]; exact shr4 x), ⟨by omega, by show ((x.toNat / 16 : Nat) : Int) < 16; omega⟩, ?_⟩
      refine bld_wbyte (i := 1) (j := 0) (hexC (x.toNat / 16)) (hex_at _) rfl rfl (by decide) (.inr rfl) (by show (l ++ [37]).length + 1 ≤ _; omega) fun A2 d2 W4 _ => ?_
      have l2 : (l ++ [37] ++ [hexC (x.toNat / 16)]).length ≤ 3 * i + 2 := by simp; omega
      refine ⟨⟨by omega, hq⟩, rfl, ((x.toNat % 16 : Nat) : Int), (by rw [hb]; exact and15 x), ⟨by omega, by show ((x.toNat % 16 : Nat) : Int) < 16; omega⟩, ?_⟩
      refine bld_wbyte (i := 1) (j := 0) (hexC (x.toNat % 16)) (hex_at _) rfl rfl (by decide) (.inr rfl) (by show (l ++ [37] ++ [hexC (x.toNat / 16)]).length + 1 ≤ _; omega) fun A3 d3 W6 _ => ?_
      refine ⟨rfl, _, inc, ⟨i + 1, bldP b, A3, d3, l ++ [37] ++ [hexC (x.toNat / 16)] ++ [hexC (x.toNat % 16)]⟩, all_sl ⟨rfl, trivial⟩, rfl, ole_refl _, ⟨.inr rfl, by dsimp only; omega, by dsimp only; rw [hne, hl]; simp, NilIff.snoc _ _ _ _⟩, by dsimp only; omega⟩
  · have hq : ¬ (i : Int) < s.length := hq
    rw [List.take_of_length_le (by omega)] at hl
    by_cases h0 : l = []
    · subst h0
      obtain ⟨rfl, rfl⟩ := hnil rfl
      refine bld_str0 (i := 1) rfl ?_
      exact ret_plain rfl fun _ _ => by rw [← hl]
    · refine bld_str (i := 1) (j := 0) rfl rfl rfl h0 (by show l.length ≤ _; omega) fun g W9 hA hc l9 hF => ?_
      exact ret_plain rfl fun _ _ => by rw [← hl]
theorem cat_q {a b : List UInt8} (n : Nat) (h : a.length + b.length ≤ n) (hn : n ≤ 1000000000) : (a.length : Int) + b.length ≤ 9223372036854775807 := by omega
theorem hex_one {n : Nat} (h : n < 16) : (hexL.drop n).take 1 = [hexC n] := by
  have : ∀ n : Nat, n < 16 → (hexL.drop n).take 1 = [hexC n] := by decide
  exact this n h
set_option maxHeartbeats 8000000 in
theorem refescape_x (s : List UInt8) (hs : s.length ≤ 1000000) (W : PW) : CallsX Tryd.prog 25 ⟨[strV s]⟩ [] W fun v _ => v = strV (escS s) := by
  refine pureX hmix Tryd.func25 r25 (by kernel_rfl) [strV s] rfl ?_
  refine ⟨Nat × List UInt8, fun t => [(4, .v (.int .i64 t.1)), (3, .v (strV t.2))], fun _ => [], fun _ => [], fun t _ => t.1 ≤ s.length ∧ t.2 = escS (s.take t.1), fun t => s.length - t.1, (0, []),
    all_sl ⟨rfl, rfl, trivial⟩, rfl, ole_refl _, ⟨Nat.zero_le _, rfl⟩, loopOK (fun _ => ⟨⟨trivial, rfl⟩, ⟨trivial, rfl⟩, trivial⟩) (fun _ => rfl) (fun _ => rfl), ?_⟩
  rintro ⟨i, l⟩ W5 l5 ⟨hi, hl⟩ fr
  dsimp only at hi hl
  have hll : l.length ≤ 3 * i := by rw [hl]; exact esc_len i
  refine ⟨rfl, br_split (fun hq => ?_) (fun hq => ?_)⟩
  · have hq : (i : Int) < s.length := hq
    obtain ⟨x, hx⟩ := at_q (s := s) (i := i) (by omega)
    have hb : byteAt s (i : Int).toNat = x.toNat := byteAt_get hx
    have hxl := x.toNat_lt
    have hne := esc_take hx
    have inc := (i64_in ((i : Int) + 1) ⟨by omega, by omega⟩).symm
    refine ⟨⟨by omega, hq⟩, ?_⟩
    refine call_v rfl (fun W' _ => refplain_x ((s[i]?).getD 0) W') (fun W1 v W2 _ _ hv => ?_)
    rw [getD_q hx] at hv
    obtain ⟨w, hw, rfl⟩ : ∃ w, plainB x = w ∧ v = .bool w := ⟨_, rfl, hv⟩
    unfold escC at hne
    rw [hw] at hne
    cases w with
    | true =>
      have e : (s.drop (i : Int).toNat).take ((((i + 1 : Nat) : Int)).toNat - (i : Int).toNat) = [x] := by
        show (s.drop i).take (i + 1 - i) = [x]
        rw [drop_q hx, show i + 1 - i = 1 by omega]; (first | done | rfl)
      refine ⟨rfl, ((i + 1 : Nat) : Int), inc, ⟨by omega, by omega, by omega⟩, cat_q 4000000 (by rw [e]; show l.length + 1 ≤ _; omega) (by decide), ?_⟩
      refine ⟨rfl, _, inc, (i + 1, l ++ [x]), all_sl ⟨rfl, ?_, trivial⟩, rfl, ole_refl _, ⟨by dsimp only; omega, by dsimp only; rw [hne, hl]; first | done | rfl⟩, by dsimp only; omega⟩
      show GV.v (strV (l ++ (s.drop (i : Int).toNat).take ((((i + 1 : Nat) : Int)).toNat - (i : Int).toNat))) = _
      rw [e]
    | false =>
      have eq : ((x.toNat / 16 : Nat) : Int) = IntKind.u8.wrap ((byteAt s (i : Int).toNat).tdiv 16) := by
        rw [hb]; exact byte_all (p := fun c => ((c.toNat / 16 : Nat) : Int) = IntKind.u8.wrap ((c.toNat : Int).tdiv 16)) (by decide +kernel) x
      have eq1 : ((x.toNat / 16 + 1 : Nat) : Int) = IntKind.u8.wrap (((x.toNat / 16 : Nat) : Int) + 1) := by rw [u8_in _ ⟨by omega, by omega⟩]; omega
      have er : (byteAt s (i : Int).toNat).tmod 16 = ((x.toNat % 16 : Nat) : Int) := by
        rw [hb]; exact byte_all (p := fun c => (c.toNat : Int).tmod 16 = ((c.toNat % 16 : Nat) : Int)) (by decide +kernel) x
      have er1 : ((x.toNat % 16 + 1 : Nat) : Int) = IntKind.u8.wrap ((byteAt s (i : Int).toNat).tmod 16 + 1) := by rw [er, u8_in _ ⟨by omega, by omega⟩]; omega
      have t1 : (hexL.drop (((x.toNat / 16 : Nat) : Int)).toNat).take ((((x.toNat / 16 + 1 : Nat) : Int)).toNat - (((x.toNat / 16 : Nat) : Int)).toNat) = [hexC (x.toNat / 16)] := by
        show (hexL.drop (x.toNat / 16)).take (x.toNat / 16 + 1 - x.toNat / 16) = _
        rw [show x.toNat / 16 + 1 - x.toNat / 16 = 1 by omega, hex_one (by omega)]
      have t2 : (hexL.drop ((byteAt s (i : Int).toNat).tmod 16).toNat).take ((((x.toNat % 16 + 1 : Nat) : Int)).toNat - ((byteAt s (i : Int).toNat).tmod 16).toNat) = [hexC (x.toNat % 16)] := by
        rw [er]
        show (hexL.drop (x.toNat % 16)).take (x.toNat % 16 + 1 - x.toNat % 16) = _
        rw [show x.toNat % 16 + 1 - x.toNat % 16 = 1 by omega, hex_one (by omega)]
      refine ⟨cat_q 4000000 (by show l.length + 1 ≤ _; omega) (by decide), ⟨by omega, hq⟩, rfl, by decide, ((x.toNat / 16 : Nat) : Int), eq, ⟨by omega, hq⟩, rfl, by decide, ((x.toNat / 16 : Nat) : Int), eq, rfl, ((x.toNat / 16 + 1 : Nat) : Int), eq1, ⟨by omega, by omega, by show ((x.toNat / 16 + 1 : Nat) : Int) ≤ 16; omega⟩, cat_q 4000000 ?_ (by decide), ⟨by omega, hq⟩, rfl, by decide, ⟨by omega, hq⟩, rfl, by decide, rfl, ((x.toNat % 16 + 1 : Nat) : Int), er1, ⟨by rw [er]; omega, by rw [er]; omega, by show ((x.toNat % 16 + 1 : Nat) : Int) ≤ 16; omega⟩, cat_q 4000000 ?_ (by decide), ?_⟩
      · show (l ++ [37]).length + ((hexL.drop (((x.toNat / 16 : Nat) : Int)).toNat).take ((((x.toNat / 16 + 1 : Nat) : Int)).toNat - (((x.toNat / 16 : Nat) : Int)).toNat)).length ≤ _
        rw [t1]; simp; omega
      · show (l ++ [37] ++ (hexL.drop (((x.toNat / 16 : Nat) : Int)).toNat).take ((((x.toNat / 16 + 1 : Nat) : Int)).toNat - (((x.toNat / 16 : Nat) : Int)).toNat)).length + ((hexL.drop ((byteAt s (i : Int).toNat).tmod 16).toNat).take ((((x.toNat % 16 + 1 : Nat) : Int)).toNat - ((byteAt s (i : Int).toNat).tmod 16).toNat)).length ≤ _
        rw [t1, t2]; simp; omega
      refine ⟨rfl, _, inc, (i + 1, l ++ [37, hexC (x.toNat / 16), hexC (x.toNat % 16)]), all_sl ⟨rfl, ?_, trivial⟩, rfl, ole_refl _, ⟨by dsimp only; omega, by dsimp only; rw [hne, hl]; first | done | rfl⟩, by dsimp only; omega⟩
      show GV.v (strV (l ++ [37] ++ (hexL.drop (((x.toNat / 16 : Nat) : Int)).toNat).take ((((x.toNat / 16 + 1 : Nat) : Int)).toNat - (((x.toNat / 16 : Nat) : Int)).toNat) ++ (hexL.drop ((byteAt s (i : Int).toNat).tmod 16).toNat).take ((((x.toNat % 16 + 1 : Nat) : Int)).toNat - ((byteAt s (i : Int).toNat).tmod 16).toNat))) = _
      rw [t1, t2]; simp
  · have hq : ¬ (i : Int) < s.length := hq
    rw [List.take_of_length_le (by omega)] at hl
    exact ret_plain rfl fun _ _ => by rw [← hl]
end Go.Proofs.YtkhgmmejgikgnaaDoor

/- Layer 5 (query), walked: texts unescaped. -/
namespace Go.Proofs.YtkhgmmejgikgnaaDoor
open Go.RowKit

def appU (l : List UInt8) (o : Option (List UInt8)) : Option (List UInt8) := match o with | some r => some (l ++ r) | none => none
def unV (o : Option (List UInt8)) : List UInt8 × Int := match o with | some l => (l, 0) | none => ([], 4)
theorem appU_nil (o : Option (List UInt8)) : appU [] o = o := by cases o <;> rfl
theorem un_step (plus : Bool) (r l : List UInt8) {c : UInt8} (h : ¬ c.toNat = 37) : appU l (unS plus (c :: r)) = appU (l ++ [if c.toNat = 43 ∧ plus = true then 32 else c]) (unS plus r) := by
  rw [un_one plus r h]
  cases unS plus r <;> simp [appU]
theorem un_hex (plus : Bool) (r l : List UInt8) (a b : UInt8) (h : ¬ (digS a < 0 ∨ digS b < 0)) : appU l (unS plus (37 :: a :: b :: r)) = appU (l ++ [UInt8.ofNat (16 * digS a + digS b).toNat]) (unS plus r) := by
  simp only [unS, show (37 : UInt8).toNat = 37 from rfl, if_true, if_neg h]
  cases unS plus r <;> simp [appU]
theorem un_bad (plus : Bool) (r : List UInt8) (a b : UInt8) (h : digS a < 0 ∨ digS b < 0) : unS plus (37 :: a :: b :: r) = none := by
  simp only [unS, show (37 : UInt8).toNat = 37 from rfl, if_true, if_pos h]
theorem un_short (plus : Bool) (r : List UInt8) (h : r.length < 2) : unS plus (37 :: r) = none := by
  match r with
  | [] => simp [unS]
  | [a] => simp [unS]
  | a :: b :: r => simp at h; omega
theorem dig_le (c : UInt8) : digS c < 0 ∨ ∃ n : Nat, n < 16 ∧ digS c = n := by
  have h : ∀ c : UInt8, digS c < 0 ∨ (0 ≤ digS c ∧ digS c < 16) := byte_all (p := fun c => digS c < 0 ∨ (0 ≤ digS c ∧ digS c < 16)) (by decide +kernel)
  rcases h c with h | ⟨h1, h2⟩
  · exact .inl h
  · exact .inr ⟨(digS c).toNat, by omega, by omega⟩
theorem ofNat_byte {n : Nat} (h : n < 256) : ((n : Nat) : Int) = (UInt8.ofNat n).toNat := by
  rw [UInt8.toNat_ofNat']; omega
theorem byte_eq {x y : UInt8} (h : x.toNat = y.toNat) : x = y := UInt8.toNat.inj h

set_option maxHeartbeats 8000000 in
theorem unescape_x (s : List UInt8) (plus : Bool) (hs : s.length ≤ 1000000) (W : PW) : CallsX Tryd.prog 22 ⟨[strV s, .bool plus]⟩ [] W fun v _ => v = .tuple ⟨[strV (unV (unS plus s)).1, .int .i64 (unV (unS plus s)).2]⟩ := by
  refine pureNX hmix Tryd.func22 r22 (by kernel_rfl) [nilO 5 1] rfl [strV s, .bool plus] rfl ?_
  obtain ⟨ti, tz, e1, e2, e3⟩ := bld_info
  refine bld_alloc rfl e1 e2 e3 fun b _ => ?_
  refine ⟨BSt, fun t => [(7, .v (.int .i64 t.i))], fun _ => [], bO b, fun t _ => Used b t.p ∧ t.i ≤ s.length ∧ t.l.length ≤ t.i ∧ unS plus s = appU t.l (unS plus (s.drop t.i)) ∧ NilIff t.A t.c t.l, fun t => s.length - t.i, ⟨0, .pointer none, none, 0, []⟩,
    all_sl ⟨rfl, trivial⟩, rfl, ole_refl _, ⟨.inl rfl, Nat.zero_le _, Nat.le_refl _, by rw [appU_nil]; (first | done | rfl), fun _ => ⟨rfl, rfl⟩⟩, loopOK (fun _ => ⟨⟨trivial, rfl⟩, trivial⟩) (fun _ => rfl) (fun _ => rfl), ?_⟩
  rintro ⟨i, p, A, c, l⟩ W5 l5 ⟨hu, hi, hll, hl, hnil⟩ fr
  dsimp only at hu hi hll hl hnil
  refine ⟨rfl, br_split (fun hq => ?_) (fun hq => ?_)⟩
  · have hq : (i : Int) < s.length := hq
    obtain ⟨x, hx⟩ := at_q (s := s) (i := i) (by omega)
    have hb : byteAt s (i : Int).toNat = x.toNat := byteAt_get hx
    have hxl := x.toNat_lt
    have inc := (i64_in ((i : Int) + 1) ⟨by omega, by omega⟩).symm
    rw [drop_q hx] at hl
    refine ⟨⟨by omega, hq⟩, rfl, ?_⟩
    apply br_split
    · intro h43
      have h43 : byteAt s (i : Int).toNat = 43 := h43
      have hx43 : x.toNat = 43 := by omega
      apply br_bool
      · intro hp
        rw [un_step plus _ l (by omega), if_pos ⟨hx43, hp⟩] at hl
        refine bld_wbyte (i := 1) (j := 0) 32 rfl rfl rfl (by decide) hu (by show l.length + 1 ≤ _; omega) fun A1 d1 W3 _ => ?_
        exact ⟨rfl, _, inc, ⟨i + 1, bldP b, A1, d1, l ++ [32]⟩, all_sl ⟨rfl, trivial⟩, rfl, ole_refl _, ⟨.inr rfl, by dsimp only; omega, by dsimp only; simp; omega, hl, NilIff.snoc _ _ _ _⟩, by dsimp only; omega⟩
      · intro hp
        rw [un_step plus _ l (by omega), if_neg (by rw [hp]; simp)] at hl
        refine ⟨⟨by omega, hq⟩, rfl, br_nsplit (fun h37 => ?_) (fun h37 => ?_)⟩
        · refine ⟨⟨by omega, hq⟩, ?_⟩
          refine bld_wbyte (i := 1) (j := 0) x hb rfl rfl (by decide) hu (by show l.length + 1 ≤ _; omega) fun A1 d1 W3 _ => ?_
          exact ⟨rfl, _, inc, ⟨i + 1, bldP b, A1, d1, l ++ [x]⟩, all_sl ⟨rfl, trivial⟩, rfl, ole_refl _, ⟨.inr rfl, by dsimp only; omega, by dsimp only; simp; omega, hl, NilIff.snoc _ _ _ _⟩, by dsimp only; omega⟩
        · have h37 : byteAt s (i : Int).toNat = 37 := h37
          omega
    · intro h43
      have h43 : ¬ byteAt s (i : Int).toNat = 43 := h43
      refine ⟨⟨by omega, hq⟩, rfl, br_nsplit (fun h37 => ?_) (fun h37 => ?_)⟩
      · have h37 : ¬ byteAt s (i : Int).toNat = 37 := h37
        rw [un_step plus _ l (by omega), if_neg (by omega)] at hl
        refine ⟨⟨by omega, hq⟩, ?_⟩
        refine bld_wbyte (i := 1) (j := 0) x hb rfl rfl (by decide) hu (by show l.length + 1 ≤ _; omega) fun A1 d1 W3 _ => ?_
        exact ⟨rfl, _, inc, ⟨i + 1, bldP b, A1, d1, l ++ [x]⟩, all_sl ⟨rfl, trivial⟩, rfl, ole_refl _, ⟨.inr rfl, by dsimp only; omega, by dsimp only; simp; omega, hl, NilIff.snoc _ _ _ _⟩, by dsimp only; omega⟩
      · have h37 : byteAt s (i : Int).toNat = 37 := h37
        obtain rfl : x = 37 := byte_eq (by show x.toNat = 37; omega)
        refine ⟨rfl, ((s.length - i : Nat) : Int), (by show ((s.length - i : Nat) : Int) = IntKind.i64.wrap ((s.length : Int) - i); rw [i64_in _ ⟨by omega, by omega⟩]; omega), rfl, ?_⟩
        apply br_split
        · intro h3
          have h3 : ((s.length - i : Nat) : Int) < 3 := h3
          have e : unS plus s = none := by rw [hl, un_short plus _ (by rw [List.length_drop]; omega)]; (first | done | rfl)
          exact ret_plain rfl fun _ _ => by rw [e]; (first | done | rfl)
        intro h3
        have h3 : ¬ ((s.length - i : Nat) : Int) < 3 := h3
        obtain ⟨y, hy⟩ := at_q (s := s) (i := i + 1) (by omega)
        obtain ⟨z, hz⟩ := at_q (s := s) (i := i + 2) (by omega)
        have w1 : ((i + 1 : Nat) : Int) = IntKind.i64.wrap ((i : Int) + 1) := by rw [i64_in _ ⟨by omega, by omega⟩]; omega
        have w2 : ((i + 2 : Nat) : Int) = IntKind.i64.wrap ((i : Int) + 2) := by rw [i64_in _ ⟨by omega, by omega⟩]; omega
        rw [drop_q hy, show i + 1 + 1 = i + 2 from rfl, drop_q hz, show i + 2 + 1 = i + 3 from rfl] at hl
        refine ⟨rfl, _, w1, ⟨by omega, by show ((i + 1 : Nat) : Int) < s.length; omega⟩, rfl, _, w2, ⟨by omega, by show ((i + 2 : Nat) : Int) < s.length; omega⟩, ?_⟩
        refine call_v rfl (fun W' _ => digit_x ((s[i + 1]?).getD 0) W') (fun W1 v W2 _ _ hv => ?_)
        rw [getD_q hy] at hv
        refine call_v rfl (fun W' _ => digit_x ((s[i + 2]?).getD 0) W') (fun W3 v2 W4 _ _ hv2 => ?_)
        rw [getD_q hz] at hv2
        obtain ⟨d1, hd1, rfl⟩ : ∃ d, digS y = d ∧ v = .int .i64 d := ⟨_, rfl, hv⟩
        obtain ⟨d2, hd2, rfl⟩ : ∃ d, digS z = d ∧ v2 = .int .i64 d := ⟨_, rfl, hv2⟩
        have bad : (digS y < 0 ∨ digS z < 0) → unS plus s = none := fun h => by rw [hl, un_bad plus _ _ _ h]; (first | done | rfl)
        refine ⟨rfl, ?_⟩
        apply br_split
        · intro hh
          have hh : d1 < 0 := hh
          have e := bad (.inl (by omega))
          exact ret_plain rfl fun _ _ => by rw [e]; (first | done | rfl)
        intro hh
        have hh : ¬ d1 < 0 := hh
        refine ⟨rfl, ?_⟩
        apply br_split
        · intro hh2
          have hh2 : d2 < 0 := hh2
          have e := bad (.inr (by omega))
          exact ret_plain rfl fun _ _ => by rw [e]; (first | done | rfl)
        intro hh2
        have hh2 : ¬ d2 < 0 := hh2
        rw [un_hex plus _ l y z (by omega)] at hl
        obtain ⟨a, ha, ea⟩ : ∃ n : Nat, n < 16 ∧ digS y = n := (dig_le y).resolve_left (by omega)
        obtain ⟨e, he, ee⟩ : ∃ n : Nat, n < 16 ∧ digS z = n := (dig_le z).resolve_left (by omega)
        obtain rfl : d1 = a := by omega
        obtain rfl : d2 = e := by omega
        have en : (16 * digS y + digS z).toNat = 16 * a + e := by omega
        rw [en] at hl
        refine ⟨by decide, ((16 * a : Nat) : Int), shl16 ha, rfl, ((16 * a + e : Nat) : Int), or16 ha he, ((16 * a + e : Nat) : Int), (u8_in _ ⟨by omega, by omega⟩).symm, ?_⟩
        refine bld_wbyte (i := 1) (j := 0) (UInt8.ofNat (16 * a + e)) (ofNat_byte (by omega)) rfl rfl (by decide) hu (by show l.length + 1 ≤ _; omega) fun A1 f1 W6 _ => ?_
        exact ⟨rfl, _, w2, rfl, _, (show ((i + 3 : Nat) : Int) = IntKind.i64.wrap (((i + 2 : Nat) : Int) + 1) by rw [i64_in _ ⟨by omega, by omega⟩]; omega), ⟨i + 3, bldP b, A1, f1, l ++ [UInt8.ofNat (16 * a + e)]⟩, all_sl ⟨rfl, trivial⟩, rfl, ole_refl _, ⟨.inr rfl, by dsimp only; omega, by dsimp only; simp; omega, hl, NilIff.snoc _ _ _ _⟩, by dsimp only; omega⟩
  · have hq : ¬ (i : Int) < s.length := hq
    rw [List.drop_eq_nil_of_le (by omega)] at hl
    have hl : unS plus s = some l := by rw [hl]; show some (l ++ []) = _; rw [List.append_nil]
    by_cases h0 : l = []
    · subst h0
      obtain ⟨rfl, rfl⟩ := hnil rfl
      refine bld_str0 (i := 1) rfl ?_
      exact ret_plain rfl fun _ _ => by rw [hl]; (first | done | rfl)
    · refine bld_str (i := 1) (j := 0) rfl rfl rfl h0 (by show l.length ≤ _; omega) fun g W9 hA hc l9 hF => ?_
      exact ret_plain rfl fun _ _ => by rw [hl]; (first | done | rfl)

structure USt where
  i : Nat
  A : Option Addr
  c : Nat
  l : List UInt8
theorem one_byte (n : Int) : ∀ u ∈ [Value.int .u8 n], u.oneCell' = true := fun u hu => by rw [List.mem_singleton.1 hu]; (first | done | rfl)
theorem map_snoc (l : List UInt8) (x : UInt8) {n : Int} (h : n = x.toNat) : l.map byteV ++ [.int .u8 n] = (l ++ [x]).map byteV := by
  subst h
  rw [List.map_append]; (first | done | rfl)
set_option maxHeartbeats 8000000 in
theorem refunescape_x (s : List UInt8) (plus : Bool) (hs : s.length ≤ 1000000) (W : PW) : CallsX Tryd.prog 23 ⟨[strV s, .bool plus]⟩ [] W fun v _ => v = .tuple ⟨[strV (unV (unS plus s)).1, .int .i64 (unV (unS plus s)).2]⟩ := by
  refine pureNX hmix Tryd.func23 r23 (by kernel_rfl) [nilO 5 1] rfl [strV s, .bool plus] rfl ?_
  have hmax : (100000000 : Nat) ≤ maxLen := by decide
  refine ⟨USt, fun t => [(6, .v (.slice t.A t.l.length t.c)), (7, .v (.int .i64 t.i))], fun _ => [], fun t => [bufO (.slice t.A t.l.length t.c) t.l], fun t _ => t.i ≤ s.length ∧ t.l.length ≤ t.i ∧ unS plus s = appU t.l (unS plus (s.drop t.i)), fun t => s.length - t.i, ⟨0, none, 0, []⟩,
    all_sl ⟨rfl, rfl, trivial⟩, rfl, ole_refl _, ⟨Nat.zero_le _, Nat.le_refl _, by rw [appU_nil]; (first | done | rfl)⟩, loopOK (fun _ => ⟨⟨trivial, rfl⟩, ⟨trivial, rfl⟩, trivial⟩) (fun _ => rfl) (fun _ => rfl), ?_⟩
  rintro ⟨i, A, c, l⟩ W5 l5 ⟨hi, hll, hl⟩ fr
  dsimp only at hi hll hl
  refine ⟨rfl, br_split (fun hq => ?_) (fun hq => ?_)⟩
  · have hq : (i : Int) < s.length := hq
    obtain ⟨x, hx⟩ := at_q (s := s) (i := i) (by omega)
    have hb : byteAt s (i : Int).toNat = x.toNat := byteAt_get hx
    have hxl := x.toNat_lt
    have inc : ((i + 1 : Nat) : Int) = IntKind.i64.wrap ((i : Int) + 1) := by rw [i64_in _ ⟨by omega, by omega⟩]; omega
    rw [drop_q hx] at hl
    refine ⟨⟨by omega, hq⟩, rfl, br_split (fun h37 => ?_) (fun h37 => ?_)⟩
    · have h37 : byteAt s (i : Int).toNat = 37 := h37
      obtain rfl : x = 37 := byte_eq (by show x.toNat = 37; omega)
      have w2 : ((i + 2 : Nat) : Int) = IntKind.i64.wrap ((i : Int) + 2) := by rw [i64_in _ ⟨by omega, by omega⟩]; omega
      refine ⟨rfl, _, w2, rfl, ?_⟩
      apply br_split
      · intro h3
        have h3 : (s.length : Int) ≤ ((i + 2 : Nat) : Int) := h3
        have e : unS plus s = none := by rw [hl, un_short plus _ (by rw [List.length_drop]; omega)]; (first | done | rfl)
        exact ret_plain rfl fun _ _ => by rw [e]; (first | done | rfl)
      intro h3
      have h3 : ¬ (s.length : Int) ≤ ((i + 2 : Nat) : Int) := h3
      obtain ⟨y, hy⟩ := at_q (s := s) (i := i + 1) (by omega)
      obtain ⟨z, hz⟩ := at_q (s := s) (i := i + 2) (by omega)
      rw [drop_q hy, show i + 1 + 1 = i + 2 from rfl, drop_q hz, show i + 2 + 1 = i + 3 from rfl] at hl
      have bad : (digS y < 0 ∨ digS z < 0) → unS plus s = none := fun h => by rw [hl, un_bad plus _ _ _ h]; (first | done | rfl)
      have dg1 : ∀ W', CallsX Tryd.prog 66 ⟨[.int .u8 ((s[i + 1]?).getD 0).toNat]⟩ [] W' fun v _ => v = .int .i64 (digS y) := fun W' => by have := refdigit_x ((s[i + 1]?).getD 0) W'; rw [getD_q hy] at this ⊢; exact this
      have dg2 : ∀ W', CallsX Tryd.prog 66 ⟨[.int .u8 ((s[i + 2]?).getD 0).toNat]⟩ [] W' fun v _ => v = .int .i64 (digS z) := fun W' => by have := refdigit_x ((s[i + 2]?).getD 0) W'; rw [getD_q hz] at this ⊢; exact this
      obtain ⟨d1, hd1⟩ : ∃ d, digS y = d := ⟨_, rfl⟩
      obtain ⟨d2, hd2⟩ : ∃ d, digS z = d := ⟨_, rfl⟩
      rw [hd1] at dg1
      rw [hd2] at dg2
      refine ⟨rfl, _, inc, ⟨by omega, by show ((i + 1 : Nat) : Int) < s.length; omega⟩, ?_⟩
      refine call_v rfl (fun W' _ => dg1 W') (fun W1 v W2 _ _ hv => ?_)
      subst hv
      refine ⟨rfl, ?_⟩
      apply br_split
      · intro hh
        have hh : d1 < 0 := hh
        have e := bad (.inl (by omega))
        exact ret_plain rfl fun _ _ => by rw [e]; (first | done | rfl)
      intro hh
      have hh : ¬ d1 < 0 := hh
      refine ⟨rfl, _, w2, ⟨by omega, by show ((i + 2 : Nat) : Int) < s.length; omega⟩, ?_⟩
      refine call_v rfl (fun W' _ => dg2 W') (fun W1 v W2 _ _ hv => ?_)
      subst hv
      refine ⟨rfl, br_split (fun hh2 => ?_) (fun hh2 => ?_)⟩
      · have hh2 : d2 < 0 := hh2
        have e := bad (.inr (by omega))
        exact ret_plain rfl fun _ _ => by rw [e]; (first | done | rfl)
      have hh2 : ¬ d2 < 0 := hh2
      rw [un_hex plus _ l y z (by omega)] at hl
      obtain ⟨a, ha, ea⟩ : ∃ n : Nat, n < 16 ∧ digS y = n := (dig_le y).resolve_left (by omega)
      obtain ⟨e, he, ee⟩ : ∃ n : Nat, n < 16 ∧ digS z = n := (dig_le z).resolve_left (by omega)
      obtain rfl : d1 = a := by omega
      obtain rfl : d2 = e := by omega
      have en : (16 * digS y + digS z).toNat = 16 * a + e := by omega
      rw [en] at hl
      refine ⟨rfl, _, inc, ⟨by omega, by show ((i + 1 : Nat) : Int) < s.length; omega⟩, rfl, _, w2, ⟨by omega, by show ((i + 2 : Nat) : Int) < s.length; omega⟩, ?_⟩
      refine call_v rfl (fun W' _ => dg1 W') (fun W1 v W2 _ _ hv => ?_)
      subst hv
      refine ⟨rfl, ((16 * a : Nat) : Int), (by rw [i64_in _ ⟨by omega, by omega⟩]; omega), ?_⟩
      refine call_v rfl (fun W' _ => dg2 W') (fun W1 v W2 _ _ hv => ?_)
      subst hv
      refine ⟨rfl, ((16 * a + e : Nat) : Int), (by rw [i64_in _ ⟨by omega, by omega⟩]; omega), ((16 * a + e : Nat) : Int), (u8_in _ ⟨by omega, by omega⟩).symm, rfl, .inl fun g W6 l6 hr => ⟨0, _, [.int .u8 ((16 * a + e : Nat) : Int)], rfl, rfl, rfl, rfl, rfl, one_byte _, fun _ => ⟨_, rfl, hr.o⟩, by show l.length + 1 ≤ _; omega, by show (l.length + 1) * 1 ≤ _; omega, rfl, @fun A1 f1 _ => ?_⟩⟩
      have el : (l ++ [UInt8.ofNat (16 * a + e)]).length = l.length + 1 := by simp
      refine ⟨rfl, _, (show ((i + 3 : Nat) : Int) = IntKind.i64.wrap ((i : Int) + 3) by rw [i64_in _ ⟨by omega, by omega⟩]; omega), ⟨i + 3, A1, f1, l ++ [UInt8.ofNat (16 * a + e)]⟩, all_sl ⟨?_, rfl, trivial⟩, rfl, ole_eq ?_, ⟨by dsimp only; omega, by dsimp only; omega, hl⟩, by dsimp only; omega⟩
      · dsimp only; rw [el]; (first | done | rfl)
      · dsimp only; unfold bufO; rw [el, ← map_snoc l _ (ofNat_byte (show 16 * a + e < 256 by omega))]; (first | done | rfl)
    · have h37 : ¬ byteAt s (i : Int).toNat = 37 := h37
      rw [un_step plus _ l (by omega)] at hl
      refine ⟨⟨by omega, hq⟩, rfl, ?_⟩
      have fin : ∀ (y : UInt8), (if x.toNat = 43 ∧ plus = true then 32 else x) = y → unS plus s = appU (l ++ [y]) (unS plus (s.drop (i + 1))) := fun y h => by rw [← h]; exact hl
      apply br_split
      · intro h43
        have h43 : byteAt s (i : Int).toNat = 43 := h43
        have hx43 : x.toNat = 43 := by omega
        apply br_bool
        · intro hp
          have hl := fin 32 (if_pos ⟨hx43, hp⟩)
          refine ⟨rfl, .inl fun g W6 l6 hr => ⟨0, _, [.int .u8 32], rfl, rfl, rfl, rfl, rfl, one_byte _, fun _ => ⟨_, rfl, hr.o⟩, by show l.length + 1 ≤ _; omega, by show (l.length + 1) * 1 ≤ _; omega, rfl, @fun A1 f1 _ => ?_⟩⟩
          have el : (l ++ [32]).length = l.length + 1 := by simp
          refine ⟨rfl, _, inc, ⟨i + 1, A1, f1, l ++ [32]⟩, all_sl ⟨?_, rfl, trivial⟩, rfl, ole_eq ?_, ⟨by dsimp only; omega, by dsimp only; omega, hl⟩, by dsimp only; omega⟩
          · dsimp only; rw [el]; (first | done | rfl)
          · dsimp only; unfold bufO; rw [el, ← map_snoc l 32 (n := 32) rfl]; (first | done | rfl)
        · intro hp
          have hl := fin x (if_neg (by rw [hp]; simp))
          refine ⟨⟨by omega, hq⟩, rfl, .inl fun g W6 l6 hr => ⟨0, _, [.int .u8 (byteAt s (i : Int).toNat)], rfl, rfl, rfl, rfl, rfl, one_byte _, fun _ => ⟨_, rfl, hr.o⟩, by show l.length + 1 ≤ _; omega, by show (l.length + 1) * 1 ≤ _; omega, rfl, @fun A1 f1 _ => ?_⟩⟩
          have el : (l ++ [x]).length = l.length + 1 := by simp
          refine ⟨rfl, _, inc, ⟨i + 1, A1, f1, l ++ [x]⟩, all_sl ⟨?_, rfl, trivial⟩, rfl, ole_eq ?_, ⟨by dsimp only; omega, by dsimp only; omega, hl⟩, by dsimp only; omega⟩
          · dsimp only; rw [el]; (first | done | rfl)
          · dsimp only; unfold bufO; rw [el, ← map_snoc l x hb]; (first | done | rfl)
      · intro h43
        have h43 : ¬ byteAt s (i : Int).toNat = 43 := h43
        have hl := fin x (if_neg (by omega))
        refine ⟨⟨by omega, hq⟩, rfl, .inl fun g W6 l6 hr => ⟨0, _, [.int .u8 (byteAt s (i : Int).toNat)], rfl, rfl, rfl, rfl, rfl, one_byte _, fun _ => ⟨_, rfl, hr.o⟩, by show l.length + 1 ≤ _; omega, by show (l.length + 1) * 1 ≤ _; omega, rfl, @fun A1 f1 _ => ?_⟩⟩
        have el : (l ++ [x]).length = l.length + 1 := by simp
        refine ⟨rfl, _, inc, ⟨i + 1, A1, f1, l ++ [x]⟩, all_sl ⟨?_, rfl, trivial⟩, rfl, ole_eq ?_, ⟨by dsimp only; omega, by dsimp only; omega, hl⟩, by dsimp only; omega⟩
        · dsimp only; rw [el]; (first | done | rfl)
        · dsimp only; unfold bufO; rw [el, ← map_snoc l x hb]; (first | done | rfl)
  · have hq : ¬ (i : Int) < s.length := hq
    rw [List.drop_eq_nil_of_le (by omega)] at hl
    have hl : unS plus s = some l := by rw [hl]; show some (l ++ []) = _; rw [List.append_nil]
    refine ⟨l, rfl, fun _ => .inr ⟨0, _, rfl, rfl, rfl⟩, ?_⟩
    exact ret_plain rfl fun _ _ => by rw [hl]; (first | done | rfl)
end Go.Proofs.YtkhgmmejgikgnaaDoor

/- Layer 5 (query): the library's Split and Cut at one byte. -/
namespace Go.Proofs.YtkhgmmejgikgnaaDoor
open Go.RowKit

/-! ## Plain -/
theorem cutW_no {c : UInt8} : ∀ {s : List UInt8}, c ∉ s → cutW c s = (s, [])
  | [], _ => rfl
  | x :: r, h => by
    have h1 : ¬ x = c := fun e => h (e ▸ List.mem_cons_self ..)
    have h2 := cutW_no (c := c) (s := r) fun e => h (List.mem_cons_of_mem _ e)
    simp [cutW, h1, h2]
theorem idx_cases (c : UInt8) (s : List UInt8) : (Lib.indexByte s c = -1 ∧ c ∉ s) ∨ ∃ o : Nat, Lib.indexByte s c = o ∧ s = s.take o ++ c :: s.drop (o + 1) ∧ c ∉ s.take o := by
  have hge := Lib.indexByte_ge s c
  by_cases h : Lib.indexByte s c = -1
  · refine .inl ⟨h, fun hm => ?_⟩
    obtain ⟨k, hk⟩ := List.getElem?_of_mem hm
    exact Lib.indexByte_none h k hk
  · obtain ⟨o, ho⟩ : ∃ o : Nat, Lib.indexByte s c = o := ⟨(Lib.indexByte s c).toNat, by omega⟩
    obtain ⟨h1, h2⟩ := Lib.indexByte_some ho
    refine .inr ⟨o, ho, ?_, fun hm => ?_⟩
    · rw [← drop_q h1, List.take_append_drop]
    · obtain ⟨k, hk⟩ := List.getElem?_of_mem hm
      rw [List.getElem?_take] at hk
      split at hk
      · rename_i hlt
        exact h2 k hlt hk
      · cases hk
theorem cut_is (c : UInt8) (s : List UInt8) : (Lib.cut s [c]).1 = (cutW c s).1 ∧ (Lib.cut s [c]).2.1 = (cutW c s).2 := by
  unfold Lib.cut
  rw [Lib.index_one]
  rcases idx_cases c s with ⟨h, hn⟩ | ⟨o, h, hs, hn⟩
  · rw [h, if_neg (by decide), cutW_no hn]; exact ⟨rfl, rfl⟩
  · rw [h, if_pos (by omega)]
    have e := cutW_app (s.drop (o + 1)) hn
    rw [← hs] at e
    rw [e]
    exact ⟨rfl, rfl⟩
theorem split_is (c : UInt8) : ∀ (k : Nat) (s : List UInt8), s.count c ≤ k → Lib.splitK [c] 0 k s = splitL c s
  | 0, s, h => by
    have hn : c ∉ s := fun hm => by have := List.count_pos_iff.2 hm; omega
    rw [splitL_no hn]; (first | done | rfl)
  | k + 1, s, h => by
    unfold Lib.splitK
    rw [Lib.index_one]
    rcases idx_cases c s with ⟨h1, hn⟩ | ⟨o, h1, hs, hn⟩
    · rw [h1, if_pos (by decide), splitL_no hn]
    · rw [h1, if_neg (by simp)]
      have e := splitL_app (s.drop (o + 1)) hn
      rw [← hs] at e
      have hc : s.count c = (s.take o).count c + ((s.drop (o + 1)).count c + 1) := by
        conv => lhs; rw [hs]
        rw [List.count_append, List.count_cons_self]
      rw [e, ← split_is c k (s.drop (o + 1)) (by omega)]
      (first | done | rfl)

/-! ## Called -/
theorem CallsX.of_new {P : Program} {fid : FuncId} {args : Array Value} {W : PW} {n : Nat} {cs : List Value} {ty : TypeId} (hcall : Callable P fid) (hn : n ≤ maxLen)
    (h : Calls P fid args W.w fun e w' => e = .returned (.slice (some ⟨W.w.heap.size, 0, none⟩) n n) ∧ w' = W.w.alloc (.cells ⟨cs⟩ ty)) : CallsX P fid args [] W fun v W' => SlRead W' v n cs := by
  refine ⟨hcall, h.mono fun e w' ⟨he, hw⟩ => ?_⟩
  subst hw
  have hsz : (W.w.alloc (.cells ⟨cs⟩ ty)).heap.size = W.w.heap.size + 1 := by
    show (W.w.heap.push _).size = _
    exact Array.size_push _
  have hold : ∀ b, b < W.w.heap.size → (W.w.alloc (.cells ⟨cs⟩ ty)).heap[b]? = W.w.heap[b]? := fun b hb => by
    show (W.w.heap.push _)[b]? = _
    rw [Array.getElem?_push, if_neg (Nat.ne_of_lt hb)]
  have hA : ∀ b, (W.A b ∨ b = W.w.heap.size) → b < (W.w.alloc (.cells ⟨cs⟩ ty)).heap.size := fun b hb => by
    rw [hsz]
    rcases hb with hb | hb
    · have := W.lt b hb; omega
    · omega
  have hback : ∀ b, (W.A b ∨ b = W.w.heap.size) → W.A b ∨ W.w.heap.size ≤ b := fun b hb => hb.imp id fun h => by omega
  refine ⟨_, ⟨W.w.alloc (.cells ⟨cs⟩ ty), fun b => W.A b ∨ b = W.w.heap.size, hA⟩, he, rfl, ⟨⟨rfl, rfl, rfl, Nat.le_of_lt (by rw [hsz]; exact Nat.lt_succ_self _), fun b hb _ => hold b hb⟩, ⟨Nat.le_of_lt (by show W.w.heap.size < (W.w.alloc (.cells ⟨cs⟩ ty)).heap.size; rw [hsz]; exact Nat.lt_succ_self _), fun _ h => .inl h, fun b hb => hold b (W.lt b hb)⟩, hback⟩, _, _, rfl, Nat.le_refl _, hn, fun _ => ⟨_, rfl, fun j v hj => ⟨.inr (by rw [block_add]), ?_⟩⟩⟩
  rw [add_lit]
  show (W.w.alloc _).cell? _ = _
  simp [World.cell?_alloc_new, hj]
/-- The library's variable holds a number. -/
def HM (W : PW) : Prop := ∃ m : Int, Rd W ⟨2, 0, none⟩ (.int .i64 m)
theorem HM.mono {W W' : PW} (h : HM W) (l : W.Le W') : HM W' := let ⟨m, hm⟩ := h; ⟨m, hm.mono l⟩
def sC (l : List UInt8) : List Value := [strV l]
theorem split_x (s : List UInt8) (hs : s.length ≤ 1000000) (W : PW) (h : HM W) : CallsX Tryd.prog 57 ⟨[strV s, strV [38]]⟩ [] W fun v W' => RP sC W' v (splitL 38 s) := by
  obtain ⟨m, _, hm⟩ := h
  have hsz : (⟨⟨s⟩⟩ : ByteArray).size = s.length := rfl
  have hd := Lib.splitB_data ⟨⟨[38]⟩⟩ 0 (Lib.countB ⟨⟨s⟩⟩ ⟨⟨[38]⟩⟩) ⟨⟨s⟩⟩
  have hk : Lib.splitK [38] 0 (Lib.countB ⟨⟨s⟩⟩ ⟨⟨[38]⟩⟩) s = splitL 38 s := split_is 38 _ s (by
    show s.count 38 ≤ Lib.count s [38]
    rw [Lib.count_one]; exact Nat.le_refl _)
  have hd : (Lib.splitB ⟨⟨[38]⟩⟩ 0 (Lib.countB ⟨⟨s⟩⟩ ⟨⟨[38]⟩⟩) ⟨⟨s⟩⟩).map (·.data.toList) = splitL 38 s := hd.trans hk
  have hlen := Lib.splitB_all ⟨⟨[38]⟩⟩ (Nat.le_refl _) 0 (Lib.countB ⟨⟨s⟩⟩ ⟨⟨[38]⟩⟩) ⟨⟨s⟩⟩ rfl
  have hn : Lib.countB ⟨⟨s⟩⟩ ⟨⟨[38]⟩⟩ + 1 = (splitL 38 s).length := by rw [← hlen, ← hd, List.length_map]
  have hcs : ((Lib.splitB ⟨⟨[38]⟩⟩ 0 (Lib.countB ⟨⟨s⟩⟩ ⟨⟨[38]⟩⟩) ⟨⟨s⟩⟩).map Value.string) = ((splitL 38 s).map sC).flatten := by
    rw [← hd, List.map_map]
    generalize Lib.splitB ⟨⟨[38]⟩⟩ 0 (Lib.countB ⟨⟨s⟩⟩ ⟨⟨[38]⟩⟩) ⟨⟨s⟩⟩ = l
    induction l with
    | nil => rfl
    | cons a l ih => simp only [List.map_cons, List.flatten_cons, ih]; (first | done | rfl)
  have hcl : Lib.countB ⟨⟨s⟩⟩ ⟨⟨[38]⟩⟩ ≤ s.length := by
    show Lib.count s [38] ≤ _
    rw [Lib.count_one]; exact List.count_le_length
  have hmax : (100000000 : Nat) ≤ maxLen := by decide
  have := Tryd.strings_Split ⟨⟨s⟩⟩ ⟨⟨[38]⟩⟩ m W.w (by rw [hsz]; omega) hm (Nat.le_refl _)
  have hx : CallsX Tryd.prog 57 ⟨[strV s, strV [38]]⟩ [] W fun v W' => SlRead W' v (Lib.countB ⟨⟨s⟩⟩ ⟨⟨[38]⟩⟩ + 1) ((Lib.splitB ⟨⟨[38]⟩⟩ 0 (Lib.countB ⟨⟨s⟩⟩ ⟨⟨[38]⟩⟩) ⟨⟨s⟩⟩).map Value.string) :=
    CallsX.of_new ⟨_, Tryd.func57, by kernel_rfl, by kernel_rfl⟩ (by omega) this
  refine hx.mono fun v W' hr => ?_
  rw [hn, hcs] at hr
  exact hr
theorem cutq_x (s : List UInt8) (hs : s.length ≤ 1000000) (W : PW) (h : HM W) : CallsX Tryd.prog 54 ⟨[strV s, strV [61]]⟩ [] W fun v _ => ∃ b, v = .tuple ⟨[strV (cutW 61 s).1, strV (cutW 61 s).2, .bool b]⟩ := by
  obtain ⟨m, _, hm⟩ := h
  have hsz : (⟨⟨s⟩⟩ : ByteArray).size = s.length := rfl
  obtain ⟨c1, c2⟩ := cut_is 61 s
  refine CallsX.of_below ⟨_, Tryd.func54, by kernel_rfl, by kernel_rfl⟩ ((Tryd.strings_Cut ⟨⟨s⟩⟩ ⟨⟨[61]⟩⟩ m W.w (by rw [hsz]; omega) hm).mono fun e w' ⟨he, n, hw⟩ => ⟨_, he, ?_, (Lib.cut s [61]).2.2, ?_⟩)
  · subst hw
    exact ⟨rfl, rfl, rfl, Nat.le_refl _, fun _ _ => rfl⟩
  · rw [← c1, ← c2]; (first | done | rfl)
end Go.Proofs.YtkhgmmejgikgnaaDoor

/- Layer 5 (query), walked: which pairs a text has; the program's Parse and the document's. -/
namespace Go.Proofs.YtkhgmmejgikgnaaDoor
open Go.RowKit

def pairC (p : PairS) : List Value := [strV p.name, strV p.value]
theorem sC_one (l : List UInt8) : ∀ u ∈ sC l, u.oneCell' = true := fun u hu => by rw [List.mem_singleton.1 hu]; (first | done | rfl)
theorem pairC_one (p : PairS) : ∀ u ∈ pairC p, u.oneCell' = true := fun u hu => by
  simp only [pairC, List.mem_cons, List.not_mem_nil, or_false] at hu
  rcases hu with rfl | rfl <;> rfl
theorem splitL_len (c : UInt8) : ∀ s : List UInt8, (splitL c s).length ≤ s.length + 1
  | [] => by simp [splitL]
  | x :: r => by
    have := splitL_len c r
    simp only [splitL]
    split
    · simp only [List.length_cons]; omega
    · split
      · rename_i p l h; rw [h] at this; simp only [List.length_cons] at this ⊢; omega
      · simp
theorem splitL_mem (c : UInt8) : ∀ s : List UInt8, ∀ p ∈ splitL c s, p.length ≤ s.length
  | [], p, h => by simp [splitL] at h; subst h; exact Nat.le_refl _
  | x :: r, p, h => by
    have ih := splitL_mem c r
    simp only [splitL] at h
    split at h
    · rcases List.mem_cons.1 h with rfl | h
      · exact Nat.zero_le _
      · have := ih p h; simp only [List.length_cons]; omega
    · split at h
      · rename_i q l hq
        rcases List.mem_cons.1 h with rfl | h
        · have := ih q (by rw [hq]; exact List.mem_cons_self ..); simp only [List.length_cons]; omega
        · have := ih p (by rw [hq]; exact List.mem_cons_of_mem _ h); simp only [List.length_cons]; omega
      · rw [List.mem_singleton.1 h]; simp
def nonE (p : List UInt8) : Bool := !p.isEmpty
theorem filt_take {l : List (List UInt8)} {i : Nat} {x : List UInt8} (h : l[i]? = some x) : (l.take (i + 1)).filter nonE = (l.take i).filter nonE ++ (if x = [] then [] else [x]) := by
  rw [List.take_add_one, h, Option.toList_some, List.filter_append]
  congr 1
  cases x <;> simp [nonE]
def strO (v : Value) (l : List (List UInt8)) : Own := ⟨v, 9, 1, l.length, (l.map sC).flatten⟩
def pairO (v : Value) (l : List PairS) : Own := ⟨v, 71, 2, l.length, (l.map pairC).flatten⟩
structure PSt where
  i : Nat
  A : Option Addr
  c : Nat
  out : List (List UInt8)
theorem filt_len (l : List (List UInt8)) (i : Nat) : ((l.take i).filter nonE).length ≤ i := by
  have h1 := List.length_filter_le nonE (l.take i)
  rw [List.length_take] at h1; omega
theorem OwnAt.nil (A : Option Addr) : OwnAt A 0 := fun h => absurd h (Nat.lt_irrefl 0)

set_option maxHeartbeats 4000000 in
theorem pieces_x (s : List UInt8) (hs : s.length ≤ 100000) (W : PW) (h : HM W) : CallsX Tryd.prog 53 ⟨[strV s]⟩ [] W fun v W' => RP sC W' v (piecesS s) := by
  have hmax : (100000000 : Nat) ≤ maxLen := by decide
  refine pureNX hmix Tryd.func53 r53 (by kernel_rfl) [nilO 9 1] rfl [strV s] rfl ?_
  refine call_v rfl (fun W' lw => split_x s (by omega) W' (h.mono lw)) (fun W3 v W4 l3 l4 hr => ?_)
  obtain ⟨a1, c1, rfl, _, _⟩ := hr.form
  have hpl := splitL_len 38 s
  have hP : piecesS s = (splitL 38 s).filter nonE := rfl
  obtain ⟨ps, hps⟩ : ∃ ps, splitL 38 s = ps := ⟨_, rfl⟩
  rw [hps] at hr hpl hP ⊢
  refine ⟨PSt, fun t => [(9, .v (.int .i64 t.i)), (3, .v (.slice t.A t.out.length t.c))], fun _ => [], fun t => [strO (.slice t.A t.out.length t.c) t.out], fun t _ => t.i ≤ ps.length ∧ t.out = (ps.take t.i).filter nonE, fun t => ps.length - t.i, ⟨0, none, 0, []⟩,
    all_sl ⟨rfl, rfl, trivial⟩, rfl, ole_refl _, ⟨Nat.zero_le _, rfl⟩, loopOK (fun _ => ⟨⟨trivial, rfl⟩, ⟨trivial, rfl⟩, trivial⟩) (fun _ => rfl) (fun _ => rfl), ?_⟩
  rintro ⟨i, A, c, out⟩ W5 l5 ⟨hi, hout⟩ fr
  dsimp only at hi hout
  have hol : out.length ≤ i := by rw [hout]; exact filt_len ps i
  refine ⟨rfl, br_split (fun hq => ?_) (fun hq => ?_)⟩
  · have hq : (i : Int) < ps.length := hq
    obtain ⟨p1, rfl, x, hx, _, hr1, _⟩ := hr.at (sz := 1) (fun _ => rfl) l5 (j := i) ⟨by omega, hq⟩
    have hx : ps[i]? = some x := hx
    have hstep := filt_take hx
    have inc := (i64_in ((i : Int) + 1) ⟨by omega, by omega⟩).symm
    refine ⟨⟨by omega, hq⟩, p1, rfl, strV x, (hr1 (by decide) _ rfl).o, br_nsplit (fun h0 => ?_) (fun h0 => ?_)⟩
    · have h0 : ¬ x = [] := h0
      rw [if_neg h0] at hstep
      refine ⟨rfl, .inl fun g W6 l6 hg => ⟨0, _, sC x, rfl, rfl, rfl, rfl, rfl, sC_one x, fun _ => ⟨_, rfl, hg.o⟩, by show out.length + 1 ≤ _; omega, by show (out.length + 1) * 16 ≤ _; omega, rfl, @fun A1 d1 _ => ?_⟩⟩
      have el : (out ++ [x]).length = out.length + 1 := by simp
      refine ⟨rfl, _, inc, ⟨i + 1, A1, d1, out ++ [x]⟩, all_sl ⟨rfl, ?_, trivial⟩, rfl, ole_eq ?_, ⟨by dsimp only; omega, by dsimp only; rw [hstep, hout]⟩, by dsimp only; omega⟩
      · dsimp only; rw [el]; (first | done | rfl)
      · dsimp only; unfold strO; rw [el, flat_snoc]; (first | done | rfl)
    · have h0 : x = [] := h0
      rw [if_pos h0, List.append_nil] at hstep
      exact ⟨rfl, _, inc, ⟨i + 1, A, c, out⟩, all_sl ⟨rfl, rfl, trivial⟩, rfl, ole_refl _, ⟨by dsimp only; omega, by dsimp only; rw [hstep, hout]⟩, by dsimp only; omega⟩
  · have hq : ¬ (i : Int) < ps.length := hq
    rw [List.take_of_length_le (by omega)] at hout
    refine RetVC.freeze (fun _ hb => hb) (i := 0) rfl fun Wm lm hs0 => ?_
    refine ret_plain rfl fun W' lw => ?_
    rw [hP, ← hout]
    exact SlRead.mono hs0 lw

/-! ## Pairs -/
def appL (a : List PairS) (o : Option (List PairS)) : Option (List PairS) := match o with | some r => some (a ++ r) | none => none
theorem appL_nil (o : Option (List PairS)) : appL [] o = o := by cases o <;> rfl
theorem pairs_step (a : List PairS) (p : List UInt8) (r : List (List UInt8)) {n v : List UInt8} (h1 : unS true (cutW 61 p).1 = some n) (h2 : unS true (cutW 61 p).2 = some v) : appL a (pairsP (p :: r)) = appL (a ++ [⟨n, v⟩]) (pairsP r) := by
  simp only [pairsP, pairP, h1, h2]
  cases pairsP r <;> simp [appL]
theorem pairs_bad (p : List UInt8) (r : List (List UInt8)) (h : unS true (cutW 61 p).1 = none ∨ unS true (cutW 61 p).2 = none) : pairsP (p :: r) = none := by
  have : pairP p = none := by
    unfold pairP
    rcases h with h | h
    · rw [h]
    · rw [h]; cases unS true (cutW 61 p).1 <;> rfl
  simp only [pairsP, this]
theorem cutW_len (c : UInt8) : ∀ s : List UInt8, (cutW c s).1.length ≤ s.length ∧ (cutW c s).2.length ≤ s.length
  | [] => ⟨Nat.le_refl _, Nat.le_refl _⟩
  | x :: r => by
    have := cutW_len c r
    simp only [cutW]
    split
    · exact ⟨Nat.zero_le _, by simp⟩
    · exact ⟨by simp only [List.length_cons]; omega, by simp only [List.length_cons]; omega⟩
theorem drop_qq {α : Type} {s : List α} {i : Nat} {c : α} (h : s[i]? = some c) : s.drop i = c :: s.drop (i + 1) := by
  have h1 := (List.getElem?_eq_some_iff.1 h).1
  rw [List.drop_eq_getElem_cons h1, (List.getElem?_eq_some_iff.1 h).2]
theorem pieces_mem {s p : List UInt8} (h : p ∈ piecesS s) : p.length ≤ s.length := splitL_mem 38 s p (List.mem_filter.1 h).1
def parE (o : Option (List PairS)) : List PairS × Nat := match o with | some l => (l, 0) | none => ([], 4)
structure QSt where
  i : Nat
  A : Option Addr
  c : Nat
  out : List PairS
/-- What Parse answers. -/
def ParR (W : PW) (v : Value) (r : List PairS × Nat) : Prop := ∃ u, v = .tuple ⟨[u, .int .i64 (r.2 : Nat)]⟩ ∧ RP pairC W u r.1
set_option maxHeartbeats 8000000 in
theorem qparse_x (s : List UInt8) (hs : s.length ≤ 100000) (W : PW) (h : HM W) : CallsX Tryd.prog 15 ⟨[strV s]⟩ [] W fun v W' => ParR W' v (parseS s) := by
  have hmax : (100000000 : Nat) ≤ maxLen := by decide
  refine pureNX hmix Tryd.func15 r15 (by kernel_rfl) [nilO 71 2] rfl [strV s] rfl ?_
  refine call_v rfl (fun W' lw => pieces_x s hs W' (h.mono lw)) (fun W3 v W4 l3 l4 hr => ?_)
  obtain ⟨a1, c1, rfl, _, _⟩ := hr.form
  have hP : parseS s = if 64 < (piecesS s).length then ([], 25) else parE (pairsP (piecesS s)) := by
    unfold parseS parE; split
    · rfl
    · cases pairsP (piecesS s) <;> rfl
  have hmem : ∀ p ∈ piecesS s, p.length ≤ 100000 := fun p hp => Nat.le_trans (pieces_mem hp) hs
  obtain ⟨ps, hps⟩ : ∃ ps, piecesS s = ps := ⟨_, rfl⟩
  rw [hps] at hr hP hmem ⊢
  have h4 := h.mono (l3.trans l4)
  refine ⟨rfl, ?_⟩
  apply br_split
  · intro h64
    have h64 : (64 : Int) < ps.length := h64
    refine ret_plain rfl fun W' _ => ?_
    rw [hP, if_pos (by omega)]
    exact ⟨_, rfl, RP.nil _ _⟩
  intro h64
  have h64 : ¬ (64 : Int) < ps.length := h64
  rw [if_neg (by omega)] at hP
  refine ⟨QSt, fun t => [(22, .v (.int .i64 t.i)), (5, .v (.slice t.A t.out.length t.c))], fun _ => [], fun t => [pairO (.slice t.A t.out.length t.c) t.out], fun t _ => t.i ≤ ps.length ∧ t.out.length ≤ t.i ∧ pairsP ps = appL t.out (pairsP (ps.drop t.i)), fun t => ps.length - t.i, ⟨0, none, 0, []⟩,
    all_sl ⟨rfl, rfl, trivial⟩, rfl, ole_refl _, ⟨Nat.zero_le _, Nat.le_refl _, by rw [appL_nil]; (first | done | rfl)⟩, loopOK (fun _ => ⟨⟨trivial, rfl⟩, ⟨trivial, rfl⟩, trivial⟩) (fun _ => rfl) (fun _ => rfl), ?_⟩
  rintro ⟨i, A, c, out⟩ W5 l5 ⟨hi, hol, hout⟩ fr
  dsimp only at hi hol hout
  refine ⟨rfl, br_split (fun hq => ?_) (fun hq => ?_)⟩
  · have hq : (i : Int) < ps.length := hq
    obtain ⟨p1, rfl, x, hx, _, hr1, _⟩ := hr.at (sz := 1) (fun _ => rfl) l5 (j := i) ⟨by omega, hq⟩
    have hx : ps[i]? = some x := hx
    have hxl := hmem x (List.mem_of_getElem? hx)
    obtain ⟨cl1, cl2⟩ := cutW_len 61 x
    rw [drop_qq hx] at hout
    have inc := (i64_in ((i : Int) + 1) ⟨by omega, by omega⟩).symm
    have bad : (unS true (cutW 61 x).1 = none ∨ unS true (cutW 61 x).2 = none) → parseS s = ([], 4) := fun hb => by rw [hP, hout, pairs_bad x _ hb]; (first | done | rfl)
    refine ⟨⟨by omega, hq⟩, p1, rfl, strV x, (hr1 (by decide) _ rfl).o, ?_⟩
    refine call_v rfl (fun W' lw => cutq_x x (by omega) W' (h4.mono (l5.trans lw))) (fun W6 v W7 l6 l7 hv => ?_)
    obtain ⟨b, rfl⟩ := hv
    obtain ⟨y, hy⟩ : ∃ y, (cutW 61 x).1 = y := ⟨_, rfl⟩
    obtain ⟨z, hz⟩ : ∃ z, (cutW 61 x).2 = z := ⟨_, rfl⟩
    have hst := fun n v h1 h2 => pairs_step out x (ps.drop (i + 1)) (n := n) (v := v) h1 h2
    rw [hy] at cl1 bad hst ⊢
    rw [hz] at cl2 bad hst ⊢
    refine ⟨_, rfl, _, rfl, _, rfl, ?_⟩
    refine call_v rfl (fun W' _ => unescape_x y true (by omega) W') (fun W8 v W9 l8 l9 hv => ?_)
    obtain ⟨o1, ho1⟩ : ∃ o, unS true y = o := ⟨_, rfl⟩
    rw [ho1] at hv bad hst
    have fin4 : parseS s = ([], 4) → ∀ W', ParR W' (.tuple ⟨[.slice none 0 0, .int .i64 4]⟩) (parseS s) := fun e W' => by rw [e]; exact ⟨_, rfl, RP.nil _ _⟩
    cases o1 with
    | none =>
      have hv : v = .tuple ⟨[strV [], .int .i64 4]⟩ := hv
      subst hv
      refine ⟨_, rfl, _, rfl, ?_⟩
      refine call_v rfl (fun W' _ => unescape_x z true (by omega) W') (fun W10 v W11 l10 l11 hv => ?_)
      obtain ⟨o2, ho2⟩ : ∃ o, unS true z = o := ⟨_, rfl⟩
      rw [ho2] at hv
      have e4 := bad (.inl rfl)
      cases o2 with
      | none =>
        have hv : v = .tuple ⟨[strV [], .int .i64 4]⟩ := hv
        subst hv
        refine ⟨_, rfl, _, rfl, rfl, ?_⟩
        exact ret_plain rfl fun W' _ => fin4 e4 W'
      | some n2 =>
        have hv : v = .tuple ⟨[strV n2, .int .i64 0]⟩ := hv
        subst hv
        refine ⟨_, rfl, _, rfl, rfl, ?_⟩
        exact ret_plain rfl fun W' _ => fin4 e4 W'
    | some n1 =>
      have hv : v = .tuple ⟨[strV n1, .int .i64 0]⟩ := hv
      subst hv
      refine ⟨_, rfl, _, rfl, ?_⟩
      refine call_v rfl (fun W' _ => unescape_x z true (by omega) W') (fun W10 v W11 l10 l11 hv => ?_)
      obtain ⟨o2, ho2⟩ : ∃ o, unS true z = o := ⟨_, rfl⟩
      rw [ho2] at hv bad hst
      cases o2 with
      | none =>
        have e4 := bad (.inr rfl)
        have hv : v = .tuple ⟨[strV [], .int .i64 4]⟩ := hv
        subst hv
        refine ⟨_, rfl, _, rfl, rfl, rfl, ?_⟩
        exact ret_plain rfl fun W' _ => fin4 e4 W'
      | some n2 =>
        have hv : v = .tuple ⟨[strV n2, .int .i64 0]⟩ := hv
        subst hv
        have hout := hout.trans (hst n1 n2 rfl rfl)
        refine ⟨_, rfl, _, rfl, rfl, rfl, ?_⟩
        refine ⟨rfl, .inl fun g W12 l12 hg => ⟨0, _, pairC ⟨n1, n2⟩, rfl, rfl, rfl, rfl, rfl, pairC_one _, fun _ => ⟨_, rfl, hg.o⟩, by show out.length + 1 ≤ _; omega, by show (out.length + 1) * 32 ≤ _; omega, rfl, @fun A1 d1 _ => ?_⟩⟩
        have el : (out ++ [(⟨n1, n2⟩ : PairS)]).length = out.length + 1 := by simp
        refine ⟨rfl, _, inc, ⟨i + 1, A1, d1, out ++ [⟨n1, n2⟩]⟩, all_sl ⟨rfl, ?_, trivial⟩, rfl, ole_eq ?_, ⟨by dsimp only; omega, by dsimp only; omega, hout⟩, by dsimp only; omega⟩
        · dsimp only; rw [el]; (first | done | rfl)
        · dsimp only; unfold pairO; rw [el, flat_snoc]; (first | done | rfl)
  · have hq : ¬ (i : Int) < ps.length := hq
    rw [List.drop_eq_nil_of_le (by omega)] at hout
    have hout : pairsP ps = some out := by rw [hout]; show some (out ++ []) = _; rw [List.append_nil]
    refine RetVC.freeze (fun _ hb => hb) (i := 0) rfl fun Wm lm hs0 => ?_
    refine ret_plain rfl fun W' lw => ?_
    rw [hP, hout]
    exact ⟨_, rfl, SlRead.mono hs0 lw⟩
end Go.Proofs.YtkhgmmejgikgnaaDoor

/- Layer 5 (query), walked: the document's Parse. -/
namespace Go.Proofs.YtkhgmmejgikgnaaDoor
open Go.RowKit

/-! ## Cut at each -/
structure RSt where
  i : Nat
  from_ : Nat
  A : Option Addr
  c : Nat
  out : List (List UInt8)
def CutI (c : UInt8) (s : List UInt8) (i k : Nat) (out : List (List UInt8)) : Prop :=
  (i ≤ s.length ∧ k ≤ i ∧ splitL c s = out ++ splitL c (s.drop k) ∧ c ∉ (s.drop k).take (i - k)) ∨ (i = s.length + 1 ∧ splitL c s = out)
theorem piece_more {s : List UInt8} {i k : Nat} {d : UInt8} (hk : k ≤ i) (h : s[i]? = some d) : (s.drop k).take (i + 1 - k) = (s.drop k).take (i - k) ++ [d] := by
  rw [show i + 1 - k = (i - k) + 1 by omega, List.take_add_one, List.getElem?_drop, show k + (i - k) = i by omega, h]; (first | done | rfl)
theorem cutI_end {c : UInt8} {s : List UInt8} {i k : Nat} {out : List (List UInt8)} (hi : i = s.length) (h : splitL c s = out ++ splitL c (s.drop k)) (hn : c ∉ (s.drop k).take (i - k)) : CutI c s (i + 1) (i + 1) (out ++ [(s.drop k).take (i - k)]) := by
  refine .inr ⟨by omega, ?_⟩
  have e : (s.drop k).take (i - k) = s.drop k := List.take_of_length_le (by rw [List.length_drop]; omega)
  rw [e] at hn ⊢
  rw [h, splitL_no hn]
theorem cutI_hit {c : UInt8} {s : List UInt8} {i k : Nat} {out : List (List UInt8)} (hk : k ≤ i) (hc : s[i]? = some c) (h : splitL c s = out ++ splitL c (s.drop k)) (hn : c ∉ (s.drop k).take (i - k)) : CutI c s (i + 1) (i + 1) (out ++ [(s.drop k).take (i - k)]) := by
  have hl := (List.getElem?_eq_some_iff.1 hc).1
  have e : s.drop k = (s.drop k).take (i - k) ++ c :: s.drop (i + 1) := by
    conv => lhs; rw [← List.take_append_drop (i - k) (s.drop k)]
    rw [List.drop_drop, show k + (i - k) = i by omega, drop_q hc]
  refine .inl ⟨by omega, Nat.le_refl _, ?_, by simp⟩
  rw [h]
  conv => lhs; rw [e]
  rw [splitL_app _ hn, List.append_assoc]; (first | done | rfl)
theorem cutI_miss {c d : UInt8} {s : List UInt8} {i k : Nat} {out : List (List UInt8)} (hk : k ≤ i) (hd : s[i]? = some d) (hne : ¬ d = c) (h : splitL c s = out ++ splitL c (s.drop k)) (hn : c ∉ (s.drop k).take (i - k)) : CutI c s (i + 1) k out := by
  have hl := (List.getElem?_eq_some_iff.1 hd).1
  refine .inl ⟨by omega, by omega, h, ?_⟩
  rw [piece_more hk hd]
  intro hm
  rcases List.mem_append.1 hm with hm | hm
  · exact hn hm
  · exact hne (List.mem_singleton.1 hm).symm
set_option maxHeartbeats 4000000 in
theorem refcut_x (s : List UInt8) (c : UInt8) (hs : s.length ≤ 100000) (W : PW) : CallsX Tryd.prog 55 ⟨[strV s, .int .u8 c.toNat]⟩ [] W fun v W' => RP sC W' v (splitL c s) := by
  have hmax : (100000000 : Nat) ≤ maxLen := by decide
  refine pureNX hmix Tryd.func55 r55 (by kernel_rfl) [nilO 9 1] rfl [strV s, .int .u8 c.toNat] rfl ?_
  refine ⟨RSt, fun t => [(5, .v (.slice t.A t.out.length t.c)), (6, .v (.int .i64 t.from_)), (7, .v (.int .i64 t.i))], fun _ => [], fun t => [strO (.slice t.A t.out.length t.c) t.out], fun t _ => t.out.length ≤ t.i ∧ CutI c s t.i t.from_ t.out, fun t => s.length + 1 - t.i, ⟨0, 0, none, 0, []⟩,
    all_sl ⟨rfl, rfl, rfl, trivial⟩, rfl, ole_refl _, ⟨Nat.le_refl _, .inl ⟨Nat.zero_le _, Nat.le_refl _, rfl, by simp⟩⟩, loopOK (fun _ => ⟨⟨trivial, rfl⟩, ⟨trivial, rfl⟩, ⟨trivial, rfl⟩, trivial⟩) (fun _ => rfl) (fun _ => rfl), ?_⟩
  rintro ⟨i, k, A, c1, out⟩ W5 l5 ⟨hol, hI⟩ fr
  dsimp only at hol hI
  refine ⟨rfl, br_split (fun hq => ?_) (fun hq => ?_)⟩
  · have hq : (i : Int) ≤ s.length := hq
    obtain ⟨hi, hk, h1, hn⟩ : i ≤ s.length ∧ k ≤ i ∧ splitL c s = out ++ splitL c (s.drop k) ∧ c ∉ (s.drop k).take (i - k) := hI.resolve_right fun h => by omega
    have inc : ((i + 1 : Nat) : Int) = IntKind.i64.wrap ((i : Int) + 1) := by rw [i64_in _ ⟨by omega, by omega⟩]; omega
    have el : (out ++ [(s.drop k).take (i - k)]).length = out.length + 1 := by simp
    refine ⟨rfl, ?_⟩
    apply br_split
    · intro he
      have he : (i : Int) = s.length := he
      have hI' := cutI_end (show i = s.length by omega) h1 hn
      refine ⟨⟨by show (0 : Int) ≤ (k : Int); omega, by show (k : Int) ≤ (i : Int); omega, by show (i : Int) ≤ (s.length : Int); omega⟩, rfl, .inl fun g W6 l6 hg => ⟨0, _, sC ((s.drop k).take (i - k)), rfl, rfl, rfl, rfl, rfl, sC_one _, fun _ => ⟨_, rfl, hg.o⟩, by show out.length + 1 ≤ _; omega, by show (out.length + 1) * 16 ≤ _; omega, rfl, @fun A1 d1 _ => ?_⟩⟩
      refine ⟨rfl, _, inc, rfl, _, inc, ⟨i + 1, i + 1, A1, d1, out ++ [(s.drop k).take (i - k)]⟩, all_sl ⟨?_, rfl, rfl, trivial⟩, rfl, ole_eq ?_, ⟨by dsimp only; omega, hI'⟩, by dsimp only; omega⟩
      · dsimp only; rw [el]; (first | done | rfl)
      · dsimp only; unfold strO; rw [el, flat_snoc]; (first | done | rfl)
    · intro he
      have he : ¬ (i : Int) = s.length := he
      obtain ⟨d, hd⟩ := at_q (s := s) (i := i) (by omega)
      have hb : byteAt s (i : Int).toNat = d.toNat := byteAt_get hd
      refine ⟨⟨by omega, by omega⟩, rfl, br_split (fun hc => ?_) (fun hc => ?_)⟩
      · have hc : byteAt s (i : Int).toNat = c.toNat := hc
        obtain rfl : d = c := byte_eq (by omega)
        have hI' := cutI_hit hk hd h1 hn
        refine ⟨⟨by show (0 : Int) ≤ (k : Int); omega, by show (k : Int) ≤ (i : Int); omega, by show (i : Int) ≤ (s.length : Int); omega⟩, rfl, .inl fun g W6 l6 hg => ⟨0, _, sC ((s.drop k).take (i - k)), rfl, rfl, rfl, rfl, rfl, sC_one _, fun _ => ⟨_, rfl, hg.o⟩, by show out.length + 1 ≤ _; omega, by show (out.length + 1) * 16 ≤ _; omega, rfl, @fun A1 d1 _ => ?_⟩⟩
        refine ⟨rfl, _, inc, rfl, _, inc, ⟨i + 1, i + 1, A1, d1, out ++ [(s.drop k).take (i - k)]⟩, all_sl ⟨?_, rfl, rfl, trivial⟩, rfl, ole_eq ?_, ⟨by dsimp only; omega, hI'⟩, by dsimp only; omega⟩
        · dsimp only; rw [el]; (first | done | rfl)
        · dsimp only; unfold strO; rw [el, flat_snoc]; (first | done | rfl)
      · have hc : ¬ byteAt s (i : Int).toNat = c.toNat := hc
        have hI' := cutI_miss hk hd (fun e => hc (by rw [hb, e])) h1 hn
        exact ⟨rfl, _, inc, ⟨i + 1, k, A, c1, out⟩, all_sl ⟨rfl, rfl, rfl, trivial⟩, rfl, ole_refl _, ⟨by dsimp only; omega, hI'⟩, by dsimp only; omega⟩
  · have hq : ¬ (i : Int) ≤ s.length := hq
    have he : splitL c s = out := (hI.resolve_left fun h => by have := h.1; omega).2
    refine RetVC.freeze (fun _ hb => hb) (i := 0) rfl fun Wm lm hs0 => ?_
    refine ret_plain rfl fun W' lw => ?_
    rw [he]
    exact SlRead.mono hs0 lw

/-! ## Parse -/
theorem cutW_at {c : UInt8} {p : List UInt8} {n : Nat} (_ : n ≤ p.length) (h : c ∉ p.take n) : (n = p.length → cutW c p = (p.take n, [])) ∧ (p[n]? = some c → cutW c p = (p.take n, p.drop (n + 1))) := by
  refine ⟨fun e => ?_, fun e => ?_⟩
  · rw [List.take_of_length_le (by omega)] at h ⊢
    exact cutW_no h
  · have := cutW_app (p.drop (n + 1)) h
    rw [← drop_q e, List.take_append_drop] at this
    exact this
/-- A cell of a list of texts that is owned. -/
theorem own_str {S : GS} {i : Nat} {A : Option Addr} {n c j : Nat} {l : List (List UInt8)} {x : List UInt8} {g : Nat} (hA : A = some ⟨g, 0, none⟩) (hn : n = l.length) (hi : S.O[i]? = some (strO (.slice A n c) l)) (hx : l[j]? = some x) : RdO S ((⟨g, 0, none⟩ : Addr).add (j * 1)) (strV x) := by
  subst hA hn
  refine .inr ⟨i, _, ⟨g, 0, none⟩, l.length, c, j * 1, hi, rfl, rfl, ?_⟩
  exact flat_get (sz := 1) (fun _ => rfl) (off := 0) hx (by decide)
structure TSt where
  i : Nat
  A : Option Addr
  c : Nat
  out : List PairS
set_option maxHeartbeats 8000000 in
theorem refparse_x (s : List UInt8) (hs : s.length ≤ 100000) (W : PW) : CallsX Tryd.prog 16 ⟨[strV s]⟩ [] W fun v W' => ParR W' v (parseS s) := by
  have hmax : (100000000 : Nat) ≤ maxLen := by decide
  refine pureNX hmix Tryd.func16 r16 (by kernel_rfl) [nilO 9 1] rfl [strV s] rfl ?_
  have hP : parseS s = if 64 < (piecesS s).length then ([], 25) else parE (pairsP (piecesS s)) := by
    unfold parseS parE; split
    · rfl
    · cases pairsP (piecesS s) <;> rfl
  have hmem : ∀ p ∈ piecesS s, p.length ≤ 100000 := fun p hp => Nat.le_trans (pieces_mem hp) hs
  refine call_v rfl (fun W' lw => refcut_x s 38 hs W') (fun W3 v W4 l3 l4 hr => ?_)
  obtain ⟨a1, c1, rfl, _, _⟩ := hr.form
  have hpl := splitL_len 38 s
  have hF : piecesS s = (splitL 38 s).filter nonE := rfl
  obtain ⟨ps, hps⟩ : ∃ ps, splitL 38 s = ps := ⟨_, rfl⟩
  rw [hps] at hr hpl hF ⊢
  refine ⟨PSt, fun t => [(6, .v (.int .i64 t.i)), (4, .v (.slice t.A t.out.length t.c))], fun _ => [], fun t => [strO (.slice t.A t.out.length t.c) t.out], fun t _ => t.i ≤ ps.length ∧ t.out = (ps.take t.i).filter nonE ∧ OwnAt t.A t.out.length, fun t => ps.length - t.i, ⟨0, none, 0, []⟩,
    all_sl ⟨rfl, rfl, trivial⟩, rfl, ole_refl _, ⟨Nat.zero_le _, rfl, OwnAt.nil _⟩, loopOK (fun _ => ⟨⟨trivial, rfl⟩, ⟨trivial, rfl⟩, trivial⟩) (fun _ => rfl) (fun _ => rfl), ?_⟩
  rintro ⟨i, A, c, out⟩ W5 l5 ⟨hi, hout, hAt⟩ fr
  dsimp only at hi hout hAt
  have hol : out.length ≤ i := by rw [hout]; exact filt_len ps i
  refine ⟨rfl, br_split (fun hq => ?_) (fun hq => ?_)⟩
  · have hq : (i : Int) < ps.length := hq
    obtain ⟨p1, rfl, x, hx, _, hr1, _⟩ := hr.at (sz := 1) (fun _ => rfl) l5 (j := i) ⟨by omega, hq⟩
    have hx : ps[i]? = some x := hx
    have hstep := filt_take hx
    have inc := (i64_in ((i : Int) + 1) ⟨by omega, by omega⟩).symm
    refine ⟨⟨by omega, hq⟩, p1, rfl, strV x, (hr1 (by decide) _ rfl).o, br_nsplit (fun h0 => ?_) (fun h0 => ?_)⟩
    · have h0 : ¬ x = [] := h0
      rw [if_neg h0] at hstep
      refine ⟨⟨by omega, hq⟩, p1, rfl, strV x, (hr1 (by decide) _ rfl).o, rfl, .inl fun g W6 l6 hg => ⟨0, _, sC x, rfl, rfl, rfl, rfl, rfl, sC_one x, fun _ => ⟨_, rfl, hg.o⟩, by show out.length + 1 ≤ _; omega, by show (out.length + 1) * 16 ≤ _; omega, rfl, @fun A1 d1 hA1 => ?_⟩⟩
      have el : (out ++ [x]).length = out.length + 1 := by simp
      refine ⟨rfl, _, inc, ⟨i + 1, A1, d1, out ++ [x]⟩, all_sl ⟨rfl, ?_, trivial⟩, rfl, ole_eq ?_, ⟨by dsimp only; omega, by dsimp only; rw [hstep, hout], by dsimp only; rw [el]; exact hA1⟩, by dsimp only; omega⟩
      · dsimp only; rw [el]; (first | done | rfl)
      · dsimp only; unfold strO; rw [el, flat_snoc]; (first | done | rfl)
    · have h0 : x = [] := h0
      rw [if_pos h0, List.append_nil] at hstep
      exact ⟨rfl, _, inc, ⟨i + 1, A, c, out⟩, all_sl ⟨rfl, rfl, trivial⟩, rfl, ole_refl _, ⟨by dsimp only; omega, by dsimp only; rw [hstep, hout], hAt⟩, by dsimp only; omega⟩
  have hq : ¬ (i : Int) < ps.length := hq
  rw [List.take_of_length_le (by omega), ← hF] at hout
  rw [← hout] at hP hmem
  refine ⟨rfl, ?_⟩
  apply br_split
  · intro h64
    have h64 : (64 : Int) < out.length := h64
    refine ret_plain rfl fun W' _ => ?_
    rw [hP, if_pos (by omega)]
    exact ⟨_, rfl, RP.nil _ _⟩
  intro h64
  have h64 : ¬ (64 : Int) < out.length := h64
  rw [if_neg (by omega)] at hP
  refine ⟨TSt, fun t => [(8, .v (.int .i64 t.i)), (7, .v (.slice t.A t.out.length t.c))], fun _ => [], fun t => [strO (.slice A out.length c) out, pairO (.slice t.A t.out.length t.c) t.out], fun t _ => t.i ≤ out.length ∧ t.out.length ≤ t.i ∧ pairsP out = appL t.out (pairsP (out.drop t.i)), fun t => out.length - t.i, ⟨0, none, 0, []⟩,
    all_sl ⟨rfl, rfl, trivial⟩, rfl, ?_, ⟨Nat.zero_le _, Nat.le_refl _, by rw [appL_nil]; (first | done | rfl)⟩, loopOK (fun _ => ⟨⟨trivial, rfl⟩, ⟨trivial, rfl⟩, trivial⟩) (fun _ => rfl) (fun _ => rfl), ?_⟩
  · have e : OLe [strO (.slice A out.length c) out] [strO (.slice A out.length c) out, nilO 71 2] := by
      unfold OLe
      have : [strO (.slice A out.length c) out, nilO 71 2].filter (fun o => !o.isNil) = [strO (.slice A out.length c) out].filter (fun o => !o.isNil) := by
        simp [List.filter_cons, nilO, Own.isNil]
      rw [this]; exact List.filter_sublist
    exact e
  rintro ⟨k, B, e, acc⟩ W6 l6 ⟨hk, hal, hacc⟩ fr2
  dsimp only at hk hal hacc
  refine vc_cut (fun f' S' => S' = ⟨[], [strO (.slice A out.length c) out, pairO (.slice B acc.length e) acc], W6⟩ ∧ k < out.length ∧ AllSl f' [(4, .v (.slice A out.length c)), (7, .v (.slice B acc.length e)), (8, .v (.int .i64 k))]) ?_ ?_
  · refine ⟨rfl, br_split (fun hq => ?_) (fun hq => ?_)⟩
    · have hq : (k : Int) < out.length := hq
      exact ⟨rfl, by omega, ⟨rfl, rfl, rfl, trivial⟩⟩
    · have hq : ¬ (k : Int) < out.length := hq
      rw [List.drop_eq_nil_of_le (by omega)] at hacc
      have hacc : pairsP out = some acc := by rw [hacc]; show some (acc ++ []) = _; rw [List.append_nil]
      refine RetVC.freeze (fun _ hb => hb) (i := 1) rfl fun Wm lm hs0 => ?_
      refine ret_plain rfl fun W' lw => ?_
      rw [hP, hacc]
      exact ⟨_, rfl, SlRead.mono hs0 lw⟩
  rintro f3 S3 ⟨rfl, hko, hfr3⟩
  obtain ⟨x, hx⟩ : ∃ x, out[k]? = some x := ⟨_, List.getElem?_eq_getElem hko⟩
  have hxl := hmem x (List.mem_of_getElem? hx)
  obtain ⟨g, rfl⟩ := hAt (by omega)
  have hko' : (k : Int) < out.length := by omega
  rw [drop_qq hx] at hacc
  have inc := (i64_in ((k : Int) + 1) ⟨by omega, by omega⟩).symm
  obtain ⟨cl1, cl2⟩ := cutW_len 61 x
  have bad : (unS true (cutW 61 x).1 = none ∨ unS true (cutW 61 x).2 = none) → parseS s = ([], 4) := fun hb => by rw [hP, hacc, pairs_bad x _ hb]; (first | done | rfl)
  have hst := fun n v h1 h2 => pairs_step acc x (out.drop (k + 1)) (n := n) (v := v) h1 h2
  refine vc_cut (fun f' S' => ∃ (B' : Option Addr) (e' : Nat) (acc' : List PairS) (W7 : PW), S' = ⟨[], [strO (.slice (some ⟨g, 0, none⟩) out.length c) out, pairO (.slice B' acc'.length e') acc'], W7⟩ ∧ acc'.length = acc.length + 1 ∧ pairsP out = appL acc' (pairsP (out.drop (k + 1))) ∧ AllSl f' [(7, .v (.slice B' acc'.length e')), (8, .v (.int .i64 k))]) ?_ ?_
  rotate_left
  · rintro f4 S4 ⟨B', e', acc', W7, rfl, hl', hacc', hfr4⟩
    refine vc_at _ hfr4 ?_
    exact ⟨rfl, _, inc, ⟨k + 1, B', e', acc'⟩, all_sl ⟨rfl, rfl, trivial⟩, rfl, ole_refl _, ⟨by dsimp only; omega, by dsimp only; omega, hacc'⟩, by dsimp only; omega⟩
  refine vc_block ?_
  refine vc_at _ hfr3 ?_
  refine vc_assoc (vc_assoc (vc_assoc (vc_cut (fun f' S' => ∃ (n : Nat), S' = ⟨[], [strO (.slice (some ⟨g, 0, none⟩) out.length c) out, pairO (.slice B acc.length e) acc], W6⟩ ∧ n ≤ x.length ∧ x.take n = (cutW 61 x).1 ∧ AllSl f' [(4, .v (.slice (some ⟨g, 0, none⟩) out.length c)), (7, .v (.slice B acc.length e)), (8, .v (.int .i64 k)), (9, .v (.int .i64 n)), (10, .v (strV (cutW 61 x).2))]) ?_ ?_)))
  · refine ⟨Nat, fun n => [(9, .v (.int .i64 n))], fun _ => [], fun _ => [strO (.slice (some ⟨g, 0, none⟩) out.length c) out, pairO (.slice B acc.length e) acc], fun n W' => W' = W6 ∧ n ≤ x.length ∧ 61 ∉ x.take n, fun n => x.length - n, 0,
      all_sl ⟨rfl, trivial⟩, rfl, ole_refl _, ⟨rfl, Nat.zero_le _, by simp⟩, loopOK (fun _ => ⟨⟨trivial, rfl⟩, trivial⟩) (fun _ => rfl) (fun _ => rfl), ?_⟩
    rintro n W7 l7 ⟨rfl, hn, hno⟩ fr5
    obtain ⟨cw1, cw2⟩ := cutW_at hn hno
    refine ⟨⟨by omega, hko'⟩, _, rfl, strV x, own_str (i := 0) rfl rfl rfl hx, rfl, ?_⟩
    apply br_split
    · intro hq
      have hq : (n : Int) < x.length := hq
      obtain ⟨d, hd⟩ := at_q (s := x) (i := n) (by omega)
      have hb : byteAt x (n : Int).toNat = d.toNat := byteAt_get hd
      refine ⟨⟨by omega, hko'⟩, _, rfl, strV x, own_str (i := 0) rfl rfl rfl hx, ⟨by omega, hq⟩, rfl, br_nsplit (fun h61 => ?_) (fun h61 => ?_)⟩
      · have h61 : ¬ byteAt x (n : Int).toNat = 61 := h61
        refine ⟨rfl, _, (i64_in ((n : Int) + 1) ⟨by omega, by omega⟩).symm, n + 1, all_sl ⟨rfl, trivial⟩, rfl, ole_refl _, ⟨rfl, by omega, ?_⟩, by dsimp only; omega⟩
        rw [take_snoc hd]
        intro hm
        rcases List.mem_append.1 hm with hm | hm
        · exact hno hm
        · have := List.mem_singleton.1 hm
          apply h61
          rw [hb, ← this]; (first | done | rfl)
      · have h61 : byteAt x (n : Int).toNat = 61 := h61
        obtain rfl : d = 61 := byte_eq (by show d.toNat = 61; omega)
        have cw := cw2 hd
        refine ⟨⟨by omega, hko'⟩, _, rfl, strV x, own_str (i := 0) rfl rfl rfl hx, rfl, ?_⟩
        refine br_yes hq ?_
        have w1 : ((n + 1 : Nat) : Int) = IntKind.i64.wrap ((n : Int) + 1) := by rw [i64_in _ ⟨by omega, by omega⟩]; omega
        refine ⟨⟨by omega, hko'⟩, _, rfl, strV x, own_str (i := 0) rfl rfl rfl hx, rfl, _, w1, ⟨by omega, by show ((n + 1 : Nat) : Int) ≤ x.length; omega, Int.le_refl _⟩, n, rfl, hn, by rw [cw], ⟨rfl, rfl, rfl, rfl, ?_, trivial⟩⟩
        rw [cw]
        show GV.v (strV ((x.drop (((n + 1 : Nat) : Int)).toNat).take (((x.length : Nat) : Int).toNat - (((n + 1 : Nat) : Int)).toNat))) = _
        rw [List.take_of_length_le (by rw [List.length_drop]; omega)]; (first | done | rfl)
    · intro hq
      have hq : ¬ (n : Int) < x.length := hq
      have cw := cw1 (by omega)
      refine ⟨⟨by omega, hko'⟩, _, rfl, strV x, own_str (i := 0) rfl rfl rfl hx, rfl, ?_⟩
      refine br_no hq ?_
      exact ⟨n, rfl, hn, by rw [cw], ⟨rfl, rfl, rfl, rfl, by rw [cw]; (first | done | rfl), trivial⟩⟩
  rintro f5 S5 ⟨n, rfl, hn, hy, hfr5⟩
  refine vc_at _ hfr5 ?_
  have ey : (x.drop (0 : Int).toNat).take ((n : Int).toNat - (0 : Int).toNat) = (cutW 61 x).1 := by rw [← hy]; (first | done | rfl)
  obtain ⟨y, hy1⟩ : ∃ y, (cutW 61 x).1 = y := ⟨_, rfl⟩
  obtain ⟨z, hz⟩ : ∃ z, (cutW 61 x).2 = z := ⟨_, rfl⟩
  rw [hy1] at cl1 bad hst ey
  rw [hz] at cl2 bad hst ⊢
  have hcall : ∀ W', CallsX Tryd.prog 23 ⟨[strV ((x.drop (0 : Int).toNat).take ((n : Int).toNat - (0 : Int).toNat)), .bool true]⟩ [] W' fun v _ => v = .tuple ⟨[strV (unV (unS true y)).1, .int .i64 (unV (unS true y)).2]⟩ := fun W' => by rw [ey]; exact refunescape_x y true (by omega) W'
  refine ⟨⟨by omega, hko'⟩, _, rfl, strV x, own_str (i := 0) rfl rfl rfl hx, ⟨by decide, by omega, by show (n : Int) ≤ x.length; omega⟩, ?_⟩
  refine call_v rfl (fun W' _ => hcall W') (fun W8 v W9 l8 l9 hv => ?_)
  obtain ⟨o1, ho1⟩ : ∃ o, unS true y = o := ⟨_, rfl⟩
  rw [ho1] at hv bad hst
  have fin4 : parseS s = ([], 4) → ∀ W', ParR W' (.tuple ⟨[.slice none 0 0, .int .i64 4]⟩) (parseS s) := fun e W' => by rw [e]; exact ⟨_, rfl, RP.nil _ _⟩
  cases o1 with
  | none =>
    have hv : v = .tuple ⟨[strV [], .int .i64 4]⟩ := hv
    subst hv
    refine ⟨_, rfl, _, rfl, ?_⟩
    refine call_v rfl (fun W' _ => refunescape_x z true (by omega) W') (fun W10 v W11 l10 l11 hv => ?_)
    obtain ⟨o2, ho2⟩ : ∃ o, unS true z = o := ⟨_, rfl⟩
    rw [ho2] at hv
    have e4 := bad (.inl rfl)
    cases o2 with
    | none =>
      have hv : v = .tuple ⟨[strV [], .int .i64 4]⟩ := hv
      subst hv
      refine ⟨_, rfl, _, rfl, rfl, ?_⟩
      exact ret_plain rfl fun W' _ => fin4 e4 W'
    | some n2 =>
      have hv : v = .tuple ⟨[strV n2, .int .i64 0]⟩ := hv
      subst hv
      refine ⟨_, rfl, _, rfl, rfl, ?_⟩
      exact ret_plain rfl fun W' _ => fin4 e4 W'
  | some n1 =>
    have hv : v = .tuple ⟨[strV n1, .int .i64 0]⟩ := hv
    subst hv
    refine ⟨_, rfl, _, rfl, ?_⟩
    refine call_v rfl (fun W' _ => refunescape_x z true (by omega) W') (fun W10 v W11 l10 l11 hv => ?_)
    obtain ⟨o2, ho2⟩ : ∃ o, unS true z = o := ⟨_, rfl⟩
    rw [ho2] at hv bad hst
    cases o2 with
    | none =>
      have e4 := bad (.inr rfl)
      have hv : v = .tuple ⟨[strV [], .int .i64 4]⟩ := hv
      subst hv
      refine ⟨_, rfl, _, rfl, rfl, rfl, ?_⟩
      exact ret_plain rfl fun W' _ => fin4 e4 W'
    | some n2 =>
      have hv : v = .tuple ⟨[strV n2, .int .i64 0]⟩ := hv
      subst hv
      have hacc := hacc.trans (hst n1 n2 rfl rfl)
      have el : (acc ++ [(⟨n1, n2⟩ : PairS)]).length = acc.length + 1 := by simp
      refine ⟨_, rfl, _, rfl, rfl, rfl, rfl, .inl fun g W12 l12 hg => ⟨1, _, pairC ⟨n1, n2⟩, rfl, rfl, rfl, rfl, rfl, pairC_one _, fun _ => ⟨_, rfl, hg.o⟩, by show acc.length + 1 ≤ _; omega, by show (acc.length + 1) * 32 ≤ _; omega, rfl, @fun A1 d1 _ => ?_⟩⟩
      refine ⟨A1, d1, acc ++ [⟨n1, n2⟩], W12, ?_, el, hacc, ⟨?_, rfl, trivial⟩⟩
      · unfold pairO; rw [el, flat_snoc]; (first | done | rfl)
      · rw [el]; (first | done | rfl)
end Go.Proofs.YtkhgmmejgikgnaaDoor

/- Layer 5 (query), walked: pairs compared, cut, sought, printed. -/
namespace Go.Proofs.YtkhgmmejgikgnaaDoor
open Go.RowKit

theorem eqPair : EqOK Tryd.prog 71 [71] := ⟨Tryd.eqGuardType71, fun s hs => by rw [List.mem_singleton.1 hs]; exact Tryd.stoodInHeld71⟩
theorem samep_x (l : List PairS) (hl : l.length ≤ 1000000) (u v : Value) (W : PW) (h1 : RP pairC W u l) (h2 : RP pairC W v l) : CallsX Tryd.prog 17 ⟨[u, v]⟩ [] W fun r _ => r = .bool true := by
  obtain ⟨a1, c1, rfl, _, _⟩ := h1.form
  obtain ⟨a2, c2, rfl, _, _⟩ := h2.form
  refine pureX hmix Tryd.func17 r17 (by kernel_rfl) [.slice a1 l.length c1, .slice a2 l.length c2] rfl ?_
  refine ⟨rfl, br_nsplit (fun hn => absurd rfl hn) (fun _ => ?_)⟩
  refine ⟨Nat, fun i => [(5, .v (.int .i64 i))], fun _ => [], fun _ => [], fun i _ => i ≤ l.length, fun i => l.length - i, 0,
    all_sl ⟨rfl, trivial⟩, rfl, ole_refl _, Nat.zero_le _, loopOK (fun _ => ⟨⟨trivial, rfl⟩, trivial⟩) (fun _ => rfl) (fun _ => rfl), ?_⟩
  intro i W1 l1 hi fr
  refine ⟨rfl, br_split (fun hq => ?_) (fun hq => ?_)⟩
  · have hq : (i : Int) < l.length := hq
    obtain ⟨p1, rfl, x, hx, _, _, hr1⟩ := h1.at (sz := 2) (fun _ => rfl) l1 (j := i) ⟨by omega, hq⟩
    obtain ⟨p2, rfl, y, hy, _, _, hr2⟩ := h2.at (sz := 2) (fun _ => rfl) l1 (j := i) ⟨by omega, hq⟩
    obtain rfl : x = y := Option.some.inj (hx.symm.trans hy)
    refine ⟨⟨by omega, hq⟩, p1, rfl, pairC x, rfl, hr1.o, ⟨by omega, hq⟩, p2, rfl, pairC x, rfl, hr2.o, eqPair, ?_⟩
    refine br_f (by simp) ?_
    exact ⟨rfl, _, (i64_in ((i : Int) + 1) ⟨by omega, by omega⟩).symm, i + 1, all_sl ⟨rfl, trivial⟩, rfl, ole_refl _, by omega, by dsimp only; omega⟩
  exact ret_plain rfl fun _ _ => rfl

/-! ## Few -/
def fewP (k : Nat) (p : PairS) : PairS := ⟨p.name.take k, p.value.take k⟩
def fewL (n k : Nat) (l : List PairS) : List PairS := (l.take n).map (fewP k)
structure FSt where
  i : Nat
  A : Option Addr
  c : Nat
theorem fewL_take {n i : Nat} {l : List PairS} (h : ¬ (i < n ∧ i < l.length)) (h1 : i ≤ n) (h2 : i ≤ l.length) : l.take i = l.take n ∧ i = (l.take n).length := by
  rcases Nat.lt_or_ge i l.length with h3 | h3
  · obtain rfl : i = n := by omega
    exact ⟨rfl, by rw [List.length_take]; omega⟩
  · obtain rfl : i = l.length := by omega
    rw [List.take_length, List.take_of_length_le h1]
    exact ⟨rfl, rfl⟩
set_option maxHeartbeats 4000000 in
theorem fewp_x (l : List PairS) (n k : Nat) (hn : n ≤ 1000) (u : Value) (W : PW) (h : RP pairC W u l) : CallsX Tryd.prog 26 ⟨[u, .int .i64 n, .int .i64 k]⟩ [] W fun v W' => RP pairC W' v (fewL n k l) := by
  obtain ⟨a1, c1, rfl, _, hc1⟩ := h.form
  have hmax : (100000000 : Nat) ≤ maxLen := by decide
  refine pureNX hmix Tryd.func26 r26 (by kernel_rfl) [nilO 71 2] rfl [.slice a1 l.length c1, .int .i64 n, .int .i64 k] rfl ?_
  refine ⟨FSt, fun t => [(7, .v (.slice t.A t.i t.c)), (8, .v (.int .i64 t.i))], fun _ => [], fun t => [⟨.slice t.A t.i t.c, 71, 2, t.i, (((l.take t.i).map (fewP k)).map pairC).flatten⟩], fun t _ => t.i ≤ n ∧ t.i ≤ l.length, fun t => n - t.i, ⟨0, none, 0⟩,
    all_sl ⟨rfl, rfl, trivial⟩, rfl, ole_refl _, ⟨Nat.zero_le _, Nat.zero_le _⟩, loopOK (fun _ => ⟨⟨trivial, rfl⟩, ⟨trivial, rfl⟩, trivial⟩) (fun _ => rfl) (fun _ => rfl), ?_⟩
  rintro ⟨i, A, c⟩ W5 l5 ⟨hi, hil⟩ fr
  dsimp only at hi hil
  have out : ¬ (i < n ∧ i < l.length) → RetVC ⟨W, [], []⟩ [.v (.slice A i c)] (fun v W' => RP pairC W' v (fewL n k l)) ⟨[], [⟨.slice A i c, 71, 2, i, (((l.take i).map (fewP k)).map pairC).flatten⟩], W5⟩ := fun hne => by
    obtain ⟨e1, e2⟩ := fewL_take hne hi hil
    refine RetVC.freeze (fun _ hb => hb) (i := 0) rfl fun Wm lm hs0 => ?_
    refine ret_plain rfl fun W' lw => ?_
    have hs := SlRead.mono hs0 lw
    have e : (fewL n k l).length = i := by unfold fewL; rw [List.length_map, ← e2]
    unfold RP
    rw [e]
    unfold fewL
    rw [← e1]
    exact hs
  refine ⟨rfl, ?_⟩
  apply br_split
  · intro h1
    have h1 : (i : Int) < l.length := h1
    refine ⟨rfl, br_split (fun h2 => ?_) (fun h2 => ?_)⟩
    · have h2 : (i : Int) < n := h2
      obtain ⟨p1, rfl, x, hx, hall, h0, _⟩ := h.at (sz := 2) (fun _ => rfl) l5 (j := i) ⟨by omega, h1⟩
      have hx : l[i]? = some x := hx
      refine ⟨⟨by omega, h1⟩, p1, rfl, strV x.name, (hall 0 _ rfl).o, ⟨by omega, h1⟩, p1, rfl, strV x.value, (hall 1 _ rfl).o, ?_⟩
      refine call_v rfl (fun W' _ => short_x x.name k W') (fun W6 v W7 l6 l7 hv => ?_)
      subst hv
      refine call_v rfl (fun W' _ => short_x x.value k W') (fun W8 v W9 l8 l9 hv => ?_)
      subst hv
      refine ⟨rfl, .inl fun g W12 l12 hg => ⟨0, _, pairC (fewP k x), rfl, rfl, rfl, rfl, rfl, pairC_one _, fun _ => ⟨_, rfl, hg.o⟩, by show i + 1 ≤ _; omega, by show (i + 1) * 32 ≤ _; omega, rfl, @fun A1 d1 _ => ?_⟩⟩
      have e : (((l.take (i + 1)).map (fewP k)).map pairC).flatten = (((l.take i).map (fewP k)).map pairC).flatten ++ pairC (fewP k x) := by rw [List.take_add_one, hx]; simp
      refine ⟨rfl, _, (i64_in ((i : Int) + 1) ⟨by omega, by omega⟩).symm, ⟨i + 1, A1, d1⟩, all_sl ⟨rfl, rfl, trivial⟩, rfl, ole_eq ?_, ⟨by dsimp only; omega, by dsimp only; omega⟩, by dsimp only; omega⟩
      dsimp only
      rw [e]; (first | done | rfl)
    · have h2 : ¬ (i : Int) < n := h2
      exact out (by omega)
  · intro h1
    have h1 : ¬ (i : Int) < l.length := h1
    exact out (by omega)

/-! ## Get -/
def getF (name : List UInt8) (r : List UInt8 × Nat) (p : PairS) : List UInt8 × Nat := if p.name = name then (p.value, r.2 + 1) else r
def getR (r : List UInt8 × Nat) : List UInt8 × Int := if r.2 = 0 then ([], 11) else if 1 < r.2 then ([], 10) else (r.1, 0)
def getS (l : List PairS) (name : List UInt8) : List UInt8 × Int := getR (l.foldl (getF name) ([], 0))
theorem foldl_step {l : List PairS} {i : Nat} {x : PairS} (name : List UInt8) (h : l[i]? = some x) : (l.take (i + 1)).foldl (getF name) ([], 0) = getF name ((l.take i).foldl (getF name) ([], 0)) x := by
  rw [List.take_add_one, h, Option.toList_some, List.foldl_append]; (first | done | rfl)
set_option maxHeartbeats 4000000 in
theorem get_x (l : List PairS) (name : List UInt8) (hl : l.length ≤ 1000000) (u : Value) (W : PW) (h : RP pairC W u l) : CallsX Tryd.prog 34 ⟨[u, strV name]⟩ [] W fun v _ => v = .tuple ⟨[strV (getS l name).1, .int .i64 (getS l name).2]⟩ := by
  obtain ⟨a1, c1, rfl, _, _⟩ := h.form
  refine pureX hmix Tryd.func34 r34 (by kernel_rfl) [.slice a1 l.length c1, strV name] rfl ?_
  refine ⟨Nat × List UInt8 × Nat, fun t => [(12, .v (.int .i64 t.1)), (6, .v (strV t.2.1)), (7, .v (.int .i64 t.2.2))], fun _ => [], fun _ => [], fun t _ => t.1 ≤ l.length ∧ t.2.2 ≤ t.1 ∧ (l.take t.1).foldl (getF name) ([], 0) = t.2, fun t => l.length - t.1, (0, [], 0),
    all_sl ⟨rfl, rfl, rfl, trivial⟩, rfl, ole_refl _, ⟨Nat.zero_le _, Nat.le_refl _, rfl⟩, loopOK (fun _ => ⟨⟨trivial, rfl⟩, ⟨trivial, rfl⟩, ⟨trivial, rfl⟩, trivial⟩) (fun _ => rfl) (fun _ => rfl), ?_⟩
  rintro ⟨i, val, n⟩ W5 l5 ⟨hi, hn, hI⟩ fr
  dsimp only at hi hn hI
  refine ⟨rfl, br_split (fun hq => ?_) (fun hq => ?_)⟩
  · have hq : (i : Int) < l.length := hq
    obtain ⟨p1, rfl, x, hx, _, _, hr1⟩ := h.at (sz := 2) (fun _ => rfl) l5 (j := i) ⟨by omega, hq⟩
    have hst := foldl_step name (show l[i]? = some x from hx)
    rw [hI] at hst
    have inc := (i64_in ((i : Int) + 1) ⟨by omega, by omega⟩).symm
    refine ⟨⟨by omega, hq⟩, p1, rfl, pairC x, rfl, hr1.o, br_split (fun he => ?_) (fun he => ?_)⟩
    · have he : x.name = name := he
      unfold getF at hst
      rw [if_pos he] at hst
      exact ⟨rfl, ((n + 1 : Nat) : Int), (show ((n + 1 : Nat) : Int) = IntKind.i64.wrap ((n : Int) + 1) by rw [i64_in _ ⟨by omega, by omega⟩]; omega), rfl, _, inc, (i + 1, x.value, n + 1), all_sl ⟨rfl, rfl, rfl, trivial⟩, rfl, ole_refl _, ⟨by dsimp only; omega, by dsimp only; omega, hst⟩, by dsimp only; omega⟩
    · have he : ¬ x.name = name := he
      unfold getF at hst
      rw [if_neg he] at hst
      exact ⟨rfl, _, inc, (i + 1, val, n), all_sl ⟨rfl, rfl, rfl, trivial⟩, rfl, ole_refl _, ⟨by dsimp only; omega, by dsimp only; omega, hst⟩, by dsimp only; omega⟩
  · have hq : ¬ (i : Int) < l.length := hq
    rw [List.take_of_length_le (by omega)] at hI
    have hG : getS l name = getR (val, n) := by unfold getS; rw [hI]
    rw [hG]
    unfold getR
    dsimp only
    refine ⟨rfl, br_split (fun h0 => ?_) (fun h0 => ?_)⟩
    · have h0 : (n : Int) = 0 := h0
      exact ret_plain rfl fun _ _ => by rw [if_pos (by omega)]; (first | done | rfl)
    · have h0 : ¬ (n : Int) = 0 := h0
      refine ⟨rfl, br_split (fun h1 => ?_) (fun h1 => ?_)⟩
      · have h1 : (1 : Int) < n := h1
        exact ret_plain rfl fun _ _ => by rw [if_neg (by omega), if_pos (by omega)]; (first | done | rfl)
      · have h1 : ¬ (1 : Int) < n := h1
        exact ret_plain rfl fun _ _ => by rw [if_neg (by omega), if_neg (by omega)]
set_option maxHeartbeats 4000000 in
theorem refget_x (l : List PairS) (name : List UInt8) (hl : l.length ≤ 1000000) (u : Value) (W : PW) (h : RP pairC W u l) : CallsX Tryd.prog 35 ⟨[u, strV name]⟩ [] W fun v _ => v = .tuple ⟨[strV (getS l name).1, .int .i64 (getS l name).2]⟩ := by
  obtain ⟨a1, c1, rfl, _, _⟩ := h.form
  refine pureX hmix Tryd.func35 r35 (by kernel_rfl) [.slice a1 l.length c1, strV name] rfl ?_
  refine ⟨Nat × List UInt8 × Nat, fun t => [(8, .v (.int .i64 t.1)), (6, .v (strV t.2.1)), (7, .v (.int .i64 t.2.2))], fun _ => [], fun _ => [], fun t _ => t.1 ≤ l.length ∧ t.2.2 ≤ t.1 ∧ (l.take t.1).foldl (getF name) ([], 0) = t.2, fun t => l.length - t.1, (0, [], 0),
    all_sl ⟨rfl, rfl, rfl, trivial⟩, rfl, ole_refl _, ⟨Nat.zero_le _, Nat.le_refl _, rfl⟩, loopOK (fun _ => ⟨⟨trivial, rfl⟩, ⟨trivial, rfl⟩, ⟨trivial, rfl⟩, trivial⟩) (fun _ => rfl) (fun _ => rfl), ?_⟩
  rintro ⟨i, val, n⟩ W5 l5 ⟨hi, hn, hI⟩ fr
  dsimp only at hi hn hI
  refine ⟨rfl, br_split (fun hq => ?_) (fun hq => ?_)⟩
  · have hq : (i : Int) < l.length := hq
    obtain ⟨p1, rfl, x, hx, hall, _, _⟩ := h.at (sz := 2) (fun _ => rfl) l5 (j := i) ⟨by omega, hq⟩
    have hst := foldl_step name (show l[i]? = some x from hx)
    rw [hI] at hst
    have inc := (i64_in ((i : Int) + 1) ⟨by omega, by omega⟩).symm
    refine ⟨⟨by omega, hq⟩, p1, rfl, strV x.name, (hall 0 _ rfl).o, br_split (fun he => ?_) (fun he => ?_)⟩
    · have he : x.name = name := he
      unfold getF at hst
      rw [if_pos he] at hst
      exact ⟨⟨by omega, hq⟩, p1, rfl, strV x.value, (hall 1 _ rfl).o, rfl, ((n + 1 : Nat) : Int), (show ((n + 1 : Nat) : Int) = IntKind.i64.wrap ((n : Int) + 1) by rw [i64_in _ ⟨by omega, by omega⟩]; omega), rfl, _, inc, (i + 1, x.value, n + 1), all_sl ⟨rfl, rfl, rfl, trivial⟩, rfl, ole_refl _, ⟨by dsimp only; omega, by dsimp only; omega, hst⟩, by dsimp only; omega⟩
    · have he : ¬ x.name = name := he
      unfold getF at hst
      rw [if_neg he] at hst
      exact ⟨rfl, _, inc, (i + 1, val, n), all_sl ⟨rfl, rfl, rfl, trivial⟩, rfl, ole_refl _, ⟨by dsimp only; omega, by dsimp only; omega, hst⟩, by dsimp only; omega⟩
  · have hq : ¬ (i : Int) < l.length := hq
    rw [List.take_of_length_le (by omega)] at hI
    have hG : getS l name = getR (val, n) := by unfold getS; rw [hI]
    rw [hG]
    unfold getR
    dsimp only
    refine ⟨rfl, br_split (fun h0 => ?_) (fun h0 => ?_)⟩
    · have h0 : (n : Int) = 0 := h0
      exact ret_plain rfl fun _ _ => by rw [if_pos (by omega)]; (first | done | rfl)
    · have h0 : ¬ (n : Int) = 0 := h0
      refine ⟨rfl, br_split (fun h1 => ?_) (fun h1 => ?_)⟩
      · have h1 : (1 : Int) < n := h1
        exact ret_plain rfl fun _ _ => by rw [if_neg (by omega), if_pos (by omega)]; (first | done | rfl)
      · have h1 : ¬ (1 : Int) < n := h1
        exact ret_plain rfl fun _ _ => by rw [if_neg (by omega), if_neg (by omega)]

/-! ## Print -/
theorem lib_join (sep : List UInt8) : ∀ (x : List UInt8) (r : List (List UInt8)), Lib.join (x :: r) sep = match r with | [] => x | y :: r' => x ++ (sep ++ Lib.join (y :: r') sep)
  | x, [] => Lib.join_one x sep
  | x, y :: r => by
    simp only [Lib.join_cons, Lib.joinTail, List.map_cons, List.flatten_cons, List.append_assoc]
theorem joinW_lib (sep : List UInt8) : ∀ l : List (List UInt8), joinW sep l = Lib.join l sep
  | [] => rfl
  | [x] => by rw [Lib.join_one]; (first | done | rfl)
  | x :: y :: l => by
    have := joinW_lib sep (y :: l)
    rw [lib_join, joinW, this, List.append_assoc]
theorem joinlib_x {e : TypeId} (xs : List (List UInt8)) (sep : List UInt8) (W : PW) (v : Value) (h : W.w.ownsRow 0 e 1 v xs.length (xs.map strV)) (hN : xs.length ≤ 100000000) (hlen : (Lib.join xs sep).length ≤ 100000000) :
    CallsX Tryd.prog 72 ⟨[v, strV sep]⟩ [] W fun r _ => r = strV (Lib.join xs sep) := by
  have hcall : Callable Tryd.prog 72 := ⟨_, Tryd.func72, by kernel_rfl, by kernel_rfl⟩
  rcases h.2 with ⟨rfl, hn⟩ | ⟨g, cap, cur, rfl, _, hg, h1, h2, h3, h4⟩
  · have hx : xs = [] := List.eq_nil_of_length_eq_zero hn
    subst hx
    exact CallsX.of_same hcall (Tryd.strings_Join_none none 0 ⟨⟨sep⟩⟩ W.w)
  · have hcell : ∀ (j : Nat) x, (xs.map fun l => (⟨⟨l⟩⟩ : ByteArray))[j]? = some x → W.w.cell? ⟨g, 0 + j, none⟩ = some (.string x) := by
      intro j x hj
      rw [List.getElem?_map] at hj
      cases hx : xs[j]? with
      | none => rw [hx] at hj; cases hj
      | some l =>
        rw [hx] at hj
        simp only [Option.map_some, Option.some.injEq] at hj
        subst hj
        have hj2 : (xs.map strV)[j]? = some (strV l) := by rw [List.getElem?_map, hx]; (first | done | rfl)
        rw [← h4, List.getElem?_take] at hj2
        split at hj2
        · simp [World.cell?, hg]
          rw [← Array.getElem?_toList]; exact hj2
        · cases hj2
    have he : (xs.map fun l => (⟨⟨l⟩⟩ : ByteArray)).map (·.data.toList) = xs := by
      rw [List.map_map]; exact List.map_id _
    have hlt : g < W.w.heap.size := (Array.getElem?_eq_some_iff.1 hg).1
    have := Tryd.strings_Join g 0 cap (xs.map fun l => (⟨⟨l⟩⟩ : ByteArray)) ⟨⟨sep⟩⟩ W.w hcell hlt (by rw [List.length_map]; omega) (by rw [List.length_map]; omega) (by rw [he]; exact Nat.le_trans hlen (by decide))
    rw [he, List.length_map] at this
    exact CallsX.of_at hcall this
theorem sC_flat (l : List (List UInt8)) : (l.map sC).flatten = l.map strV := by
  induction l with
  | nil => rfl
  | cons a l ih => simp only [List.map_cons, List.flatten_cons, ih]; (first | done | rfl)
theorem joinW_len (sep : List UInt8) (n : Nat) : ∀ l : List (List UInt8), (∀ x ∈ l, x.length ≤ n) → (joinW sep l).length ≤ l.length * (n + sep.length)
  | [], _ => Nat.zero_le _
  | [x], h => by
    have := h x (List.mem_cons_self ..)
    simp only [joinW, List.length_cons, List.length_nil, Nat.zero_add, Nat.one_mul]; omega
  | x :: y :: l, h => by
    have h1 := h x (List.mem_cons_self ..)
    have h2 := joinW_len sep n (y :: l) fun z hz => h z (List.mem_cons_of_mem x hz)
    simp only [joinW, List.length_append, List.length_cons, Nat.add_mul, Nat.one_mul] at h2 ⊢; omega
theorem joinW_snoc (sep : List UInt8) (x : List UInt8) : ∀ l : List (List UInt8), joinW sep (l ++ [x]) = if l = [] then x else joinW sep l ++ sep ++ x
  | [] => rfl
  | [y] => by simp [joinW]
  | y :: z :: l => by
    have := joinW_snoc sep x (z :: l)
    rw [if_neg (by simp)] at this
    rw [if_neg (by simp)]
    show y ++ sep ++ joinW sep ((z :: l) ++ [x]) = _
    rw [this]
    simp only [joinW, List.append_assoc]
/-- No name, no value of them is too long. -/
def Lit (l : List PairS) : Prop := l.length ≤ 1000 ∧ ∀ p ∈ l, p.name.length ≤ 1000 ∧ p.value.length ≤ 1000
theorem pairT_len {p : PairS} (h : p.name.length ≤ 1000 ∧ p.value.length ≤ 1000) : (pairT p).length ≤ 6001 := by
  have h1 := escS_len p.name
  have h2 := escS_len p.value
  unfold pairT
  simp only [List.length_append, List.length_cons]; omega
theorem print_len {l : List PairS} (h : Lit l) : (printS l).length ≤ 6002000 := by
  have := joinW_len [38] 6001 (l.map pairT) fun x hx => by
    obtain ⟨p, hp, rfl⟩ := List.mem_map.1 hx
    exact pairT_len (h.2 p hp)
  rw [List.length_map] at this
  have h1 := h.1
  unfold printS
  have h2 : l.length * (6001 + [38].length) ≤ 1000 * 6002 := Nat.mul_le_mul h1 (Nat.le_refl _)
  omega
set_option maxHeartbeats 4000000 in
theorem qprint_x (l : List PairS) (hl : Lit l) (u : Value) (W : PW) (h : RP pairC W u l) : CallsX Tryd.prog 33 ⟨[u]⟩ [] W fun v _ => v = strV (printS l) := by
  obtain ⟨a1, c1, rfl, _, _⟩ := h.form
  have hl1 := hl.1
  have hmax : (100000000 : Nat) ≤ maxLen := by decide
  refine pureNX hmix Tryd.func33 r33 (by kernel_rfl) [nilO 9 1] rfl [.slice a1 l.length c1] rfl ?_
  refine ⟨FSt, fun t => [(3, .v (.slice t.A t.i t.c)), (8, .v (.int .i64 t.i))], fun _ => [], fun t => [⟨.slice t.A t.i t.c, 9, 1, t.i, (((l.take t.i).map pairT).map sC).flatten⟩], fun t _ => t.i ≤ l.length, fun t => l.length - t.i, ⟨0, none, 0⟩,
    all_sl ⟨rfl, rfl, trivial⟩, rfl, ole_refl _, Nat.zero_le _, loopOK (fun _ => ⟨⟨trivial, rfl⟩, ⟨trivial, rfl⟩, trivial⟩) (fun _ => rfl) (fun _ => rfl), ?_⟩
  rintro ⟨i, A, c⟩ W5 l5 hi fr
  dsimp only at hi
  refine ⟨rfl, br_split (fun hq => ?_) (fun hq => ?_)⟩
  · have hq : (i : Int) < l.length := hq
    obtain ⟨p1, rfl, x, hx, _, _, hr1⟩ := h.at (sz := 2) (fun _ => rfl) l5 (j := i) ⟨by omega, hq⟩
    have hx : l[i]? = some x := hx
    have hxl := hl.2 x (List.mem_of_getElem? hx)
    have e1 := escS_len x.name
    have e2 := escS_len x.value
    refine ⟨⟨by omega, hq⟩, p1, rfl, pairC x, rfl, hr1.o, ?_⟩
    refine call_v rfl (fun W' _ => escape_x x.name (by omega) W') (fun W6 v W7 l6 l7 hv => ?_)
    obtain ⟨y, hy, rfl⟩ : ∃ y, escS x.name = y ∧ v = strV y := ⟨_, rfl, hv⟩
    rw [hy] at e1
    refine ⟨cat_q 100000 (by show y.length + 1 ≤ _; omega) (by decide), ?_⟩
    refine call_v rfl (fun W' _ => escape_x x.value (by omega) W') (fun W8 v W9 l8 l9 hv => ?_)
    obtain ⟨z, hz, rfl⟩ : ∃ z, escS x.value = z ∧ v = strV z := ⟨_, rfl, hv⟩
    rw [hz] at e2
    refine ⟨cat_q 100000 (by show (y ++ [61]).length + z.length ≤ _; rw [List.length_append]; show y.length + 1 + z.length ≤ _; omega) (by decide), rfl, .inl fun g W12 l12 hg => ⟨0, _, sC (y ++ [61] ++ z), rfl, rfl, rfl, rfl, rfl, sC_one _, fun _ => ⟨_, rfl, hg.o⟩, by show i + 1 ≤ _; omega, by show (i + 1) * 16 ≤ _; omega, rfl, @fun A1 d1 _ => ?_⟩⟩
    have e : (((l.take (i + 1)).map pairT).map sC).flatten = (((l.take i).map pairT).map sC).flatten ++ sC (y ++ [61] ++ z) := by
      rw [List.take_add_one, hx]
      simp [pairT, hy, hz]
    refine ⟨rfl, _, (i64_in ((i : Int) + 1) ⟨by omega, by omega⟩).symm, ⟨i + 1, A1, d1⟩, all_sl ⟨rfl, rfl, trivial⟩, rfl, ole_eq ?_, by dsimp only; omega, by dsimp only; omega⟩
    dsimp only
    rw [e]; (first | done | rfl)
  · have hq : ¬ (i : Int) < l.length := hq
    obtain rfl : i = l.length := by omega
    refine call_ro (fun v => v = strV (printS l)) ⟨_, Tryd.func72, by kernel_rfl, by kernel_rfl⟩ (fun ρ w hst => ?_) (fun v W' _ hv => ?_)
    · have ho := (hst.own 0 _ rfl).1
      have hlen := print_len hl
      unfold printS at hlen ⊢
      rw [joinW_lib] at hlen ⊢
      refine joinlib_x (e := 9) (l.map pairT) [38] _ _ ?_ (by rw [List.length_map]; omega) (by omega)
      have e : (((l.take l.length).map pairT).map sC).flatten = (l.map pairT).map strV := by rw [List.take_length, sC_flat]
      rw [← e, List.length_map]
      exact ho
    · subst hv
      exact ret_plain rfl fun _ _ => rfl
set_option maxHeartbeats 4000000 in
theorem refprint_x (l : List PairS) (hl : Lit l) (u : Value) (W : PW) (h : RP pairC W u l) : CallsX Tryd.prog 36 ⟨[u]⟩ [] W fun v _ => v = strV (printS l) := by
  obtain ⟨a1, c1, rfl, _, _⟩ := h.form
  have hl1 := hl.1
  refine pureX hmix Tryd.func36 r36 (by kernel_rfl) [.slice a1 l.length c1] rfl ?_
  refine ⟨Nat × List UInt8, fun t => [(4, .v (.int .i64 t.1)), (3, .v (strV t.2))], fun _ => [], fun _ => [], fun t _ => t.1 ≤ l.length ∧ t.2 = printS (l.take t.1), fun t => l.length - t.1, (0, []),
    all_sl ⟨rfl, rfl, trivial⟩, rfl, ole_refl _, ⟨Nat.zero_le _, rfl⟩, loopOK (fun _ => ⟨⟨trivial, rfl⟩, ⟨trivial, rfl⟩, trivial⟩) (fun _ => rfl) (fun _ => rfl), ?_⟩
  rintro ⟨i, acc⟩ W5 l5 ⟨hi, hacc⟩ fr
  dsimp only at hi hacc
  have hal : acc.length ≤ 6002000 := by
    rw [hacc]
    exact print_len ⟨by rw [List.length_take]; omega, fun p hp => hl.2 p (List.mem_of_mem_take hp)⟩
  refine ⟨rfl, br_split (fun hq => ?_) (fun hq => ?_)⟩
  · have hq : (i : Int) < l.length := hq
    obtain ⟨p1, rfl, x, hx, hall, _, _⟩ := h.at (sz := 2) (fun _ => rfl) l5 (j := i) ⟨by omega, hq⟩
    have hx : l[i]? = some x := hx
    have hxl := hl.2 x (List.mem_of_getElem? hx)
    have e1 := escS_len x.name
    have e2 := escS_len x.value
    have hst : printS (l.take (i + 1)) = (if i = 0 then [] else acc ++ [38]) ++ pairT x := by
      unfold printS
      rw [List.take_add_one, hx, Option.toList_some, List.map_append, List.map_singleton, joinW_snoc]
      by_cases h0 : i = 0
      · subst h0; simp
      · rw [if_neg h0, if_neg, hacc]
        · rfl
        · simp only [List.map_eq_nil_iff, List.take_eq_nil_iff]
          rintro (e | e)
          · exact h0 e
          · rw [e] at hq; simp at hq; omega
    refine ⟨rfl, br_split (fun h0 => ?_) (fun h0 => ?_)⟩
    · have h0 : (0 : Int) < i := h0
      rw [if_neg (by omega)] at hst
      refine ⟨cat_q 7000000 (by show acc.length + 1 ≤ _; omega) (by decide), ?_⟩
      obtain ⟨b, hb, hbl⟩ : ∃ b, acc ++ [38] = b ∧ b.length ≤ 6002001 := ⟨_, rfl, by simp; omega⟩
      rw [hb] at hst
      refine ⟨⟨by omega, hq⟩, p1, rfl, strV x.name, (hall 0 _ rfl).o, ⟨by omega, hq⟩, p1, rfl, strV x.value, (hall 1 _ rfl).o, ?_⟩
      refine call_v rfl (fun W' _ => refescape_x x.name (by omega) W') (fun W6 v W7 l6 l7 hv => ?_)
      obtain ⟨y, hy, rfl⟩ : ∃ y, escS x.name = y ∧ v = strV y := ⟨_, rfl, hv⟩
      rw [hy] at e1
      refine ⟨cat_q 7000000 (by show (acc ++ [38]).length + y.length ≤ _; rw [hb]; omega) (by decide), cat_q 7000000 (by show (acc ++ [38] ++ y).length + 1 ≤ _; rw [hb, List.length_append]; omega) (by decide), ?_⟩
      refine call_v rfl (fun W' _ => refescape_x x.value (by omega) W') (fun W8 v W9 l8 l9 hv => ?_)
      obtain ⟨z, hz, rfl⟩ : ∃ z, escS x.value = z ∧ v = strV z := ⟨_, rfl, hv⟩
      rw [hz] at e2
      refine ⟨cat_q 8000000 (by show (acc ++ [38] ++ y ++ [61]).length + z.length ≤ _; rw [hb, List.length_append, List.length_append]; show b.length + y.length + 1 + z.length ≤ _; omega) (by decide), rfl, _, (i64_in ((i : Int) + 1) ⟨by omega, by omega⟩).symm, (i + 1, b ++ pairT x), all_sl ⟨rfl, ?_, trivial⟩, rfl, ole_refl _, ⟨by dsimp only; omega, by dsimp only; rw [hst]⟩, by dsimp only; omega⟩
      show GV.v (strV (acc ++ [38] ++ y ++ [61] ++ z)) = .v (strV (b ++ pairT x))
      rw [hb, pairT, hy, hz]; simp
    · have h0 : ¬ (0 : Int) < i := h0
      obtain rfl : i = 0 := by omega
      have ha0 : acc = [] := hacc
      subst ha0
      refine ⟨⟨by omega, hq⟩, p1, rfl, strV x.name, (hall 0 _ rfl).o, ⟨by omega, hq⟩, p1, rfl, strV x.value, (hall 1 _ rfl).o, ?_⟩
      refine call_v rfl (fun W' _ => refescape_x x.name (by omega) W') (fun W6 v W7 l6 l7 hv => ?_)
      obtain ⟨y, hy, rfl⟩ : ∃ y, escS x.name = y ∧ v = strV y := ⟨_, rfl, hv⟩
      rw [hy] at e1
      refine ⟨cat_q 7000000 (by show 0 + y.length ≤ _; omega) (by decide), cat_q 7000000 (by show y.length + 1 ≤ _; omega) (by decide), ?_⟩
      refine call_v rfl (fun W' _ => refescape_x x.value (by omega) W') (fun W8 v W9 l8 l9 hv => ?_)
      obtain ⟨z, hz, rfl⟩ : ∃ z, escS x.value = z ∧ v = strV z := ⟨_, rfl, hv⟩
      rw [hz] at e2
      refine ⟨cat_q 8000000 (by show (y ++ [61]).length + z.length ≤ _; rw [List.length_append]; show y.length + 1 + z.length ≤ _; omega) (by decide), rfl, _, (i64_in (((0 : Nat) : Int) + 1) ⟨by omega, by omega⟩).symm, (1, pairT x), all_sl ⟨rfl, ?_, trivial⟩, rfl, ole_refl _, ⟨by dsimp only; omega, by dsimp only; rw [hst]; (first | done | rfl)⟩, by dsimp only; omega⟩
      show GV.v (strV (y ++ [61] ++ z)) = .v (strV (pairT x))
      rw [pairT, hy, hz]; simp
  · have hq : ¬ (i : Int) < l.length := hq
    rw [List.take_of_length_le (by omega)] at hacc
    exact ret_plain rfl fun _ _ => by rw [← hacc]
end Go.Proofs.YtkhgmmejgikgnaaDoor
