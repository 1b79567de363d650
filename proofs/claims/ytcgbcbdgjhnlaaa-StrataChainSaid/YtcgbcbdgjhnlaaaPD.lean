/- Layer 15 (lex): plain laws, the program's functions and the document's, walked. -/
import Derived.Test.YtcgbcbdgjhnlaaaPC
import Derived.Test.YtcgbcbdgjhnlaaaPB
import Derived.Test.YtcgbcbdgjhnlaaaShelf
namespace Go.Proofs.Ytcgbcbdgjhnlaaa

/-! ## The document's answer -/
def nameB (c : UInt8) : Bool := (decide (97 ≤ c.toNat) && decide (c.toNat ≤ 122)) || (decide (65 ≤ c.toNat) && decide (c.toNat ≤ 90)) || (decide (48 ≤ c.toNat) && decide (c.toNat ≤ 57)) || decide (c.toNat = 95)
def blankB (c : UInt8) : Bool := decide (c.toNat = 32) || decide (c.toNat = 9) || decide (c.toNat = 10) || decide (c.toNat = 13)
def textB (c : UInt8) : Bool := decide (32 ≤ c.toNat) && decide (c.toNat ≤ 126) && !decide (c.toNat = 34)
def signL : List UInt8 := [123, 125, 59, 58, 61, 124, 38, 45, 40, 41, 35, 44]
/-- What is neither blank nor remark; 'true': a remark is under way. -/
def skipM : Bool → List UInt8 → List UInt8
  | _, [] => []
  | true, c :: r => if c.toNat = 10 then skipM false r else skipM true r
  | false, c :: r => if blankB c then skipM false r else match r with
    | d :: r' => if c.toNat = 47 ∧ d.toNat = 47 then skipM true r' else c :: r
    | [] => [c]
/-- The token at a place: its kind, its text, what is behind. -/
def tokS (c : UInt8) (r : List UInt8) : Option (Nat × List UInt8 × List UInt8) :=
  if nameB c then some (1, c :: r.takeWhile nameB, r.dropWhile nameB)
  else if c.toNat = 34 then match r.dropWhile textB with
    | d :: r' => if d.toNat = 34 then some (2, r.takeWhile textB, r') else none
    | [] => none
  else match (if c.toNat = 45 then match r with | d :: r' => if d.toNat = 62 then some r' else none | [] => none else none) with
    | some r' => some (3, [45, 62], r')
    | none => if c ∈ signL then some (3, [c], r) else none
structure Tok where
  k : Nat
  t : List UInt8
  r : Nat
def lexF : Nat → List UInt8 → Option (List Tok)
  | 0, _ => none
  | n + 1, s => match skipM false s with
    | [] => some []
    | c :: r => match tokS c r with
      | none => none
      | some (k, t, rest) => match lexF n rest with
        | none => none
        | some l => some (⟨k, t, (c :: r).length⟩ :: l)
def lexS (s : List UInt8) : Option (List Tok) := lexF (s.length + 1) s

/-! ## It goes on, it ends -/
theorem skipM_len : ∀ (b : Bool) (s : List UInt8), (skipM b s).length ≤ s.length
  | _, [] => by simp [skipM]
  | true, c :: r => by
    simp only [skipM]; split
    · have := skipM_len false r; simp only [List.length_cons]; omega
    · have := skipM_len true r; simp only [List.length_cons]; omega
  | false, [c] => by
    simp only [skipM]; split <;> simp
  | false, c :: d :: r => by
    simp only [skipM]; split
    · have := skipM_len false (d :: r); simp only [List.length_cons] at *; omega
    · split
      · have := skipM_len true r; simp only [List.length_cons] at *; omega
      · simp
theorem dropWhile_len {α : Type} (p : α → Bool) : ∀ l : List α, (l.dropWhile p).length ≤ l.length
  | [] => by simp
  | a :: l => by
    have := dropWhile_len p l
    simp only [List.dropWhile_cons]; split <;> simp only [List.length_cons] <;> omega
theorem tokS_len {c : UInt8} {r rest t : List UInt8} {k : Nat} (h : tokS c r = some (k, t, rest)) : rest.length ≤ r.length := by
  unfold tokS at h
  split at h
  · simp only [Option.some.injEq, Prod.mk.injEq] at h
    rw [← h.2.2]; exact dropWhile_len _ _
  · split at h
    · split at h
      · rename_i d r' hr
        split at h
        · simp only [Option.some.injEq, Prod.mk.injEq] at h
          have := dropWhile_len textB r
          rw [hr] at this; simp only [List.length_cons] at this
          rw [← h.2.2]; omega
        · cases h
      · cases h
    · split at h
      · rename_i r' hr
        simp only [Option.some.injEq, Prod.mk.injEq] at h
        rw [← h.2.2]
        split at hr
        · split at hr
          · split at hr
            · simp only [Option.some.injEq] at hr; subst hr; simp
            · cases hr
          · cases hr
        · cases hr
      · split at h
        · simp only [Option.some.injEq, Prod.mk.injEq] at h
          rw [← h.2.2]; exact Nat.le_refl _
        · cases h
theorem lexF_more : ∀ (n m : Nat) (s : List UInt8), s.length < n → s.length < m → lexF n s = lexF m s
  | 0, _, s, h, _ => by omega
  | _, 0, s, _, h => by omega
  | n + 1, m + 1, s, h, h' => by
    simp only [lexF]
    have hl := skipM_len false s
    split
    · rfl
    · rename_i c r hs
      rw [hs] at hl; simp only [List.length_cons] at hl
      split
      · rfl
      · rename_i k t rest ht
        have := tokS_len ht
        rw [lexF_more n m rest (by omega) (by omega)]

/-! ## Texts that are joined -/
theorem takeWhile_stop {p : UInt8 → Bool} {x : UInt8} (hx : p x = false) (u : List UInt8) : ∀ l : List UInt8, (∀ c ∈ l, p c = true) → (l ++ x :: u).takeWhile p = l ∧ (l ++ x :: u).dropWhile p = x :: u
  | [], _ => by simp [hx]
  | a :: l, h => by
    have h1 := h a (List.mem_cons_self ..)
    have h2 := takeWhile_stop hx u l fun c hc => h c (List.mem_cons_of_mem _ hc)
    simp [h1, h2]
theorem takeWhile_end {p : UInt8 → Bool} : ∀ l : List UInt8, (∀ c ∈ l, p c = true) → l.takeWhile p = l ∧ l.dropWhile p = []
  | [], _ => by simp
  | a :: l, h => by
    have h1 := h a (List.mem_cons_self ..)
    have h2 := takeWhile_end l fun c hc => h c (List.mem_cons_of_mem _ hc)
    simp [h1, h2]
theorem takeWhile_app {p : UInt8 → Bool} {x : UInt8} (hx : p x = false) (u : List UInt8) : ∀ l : List UInt8, (l ++ x :: u).takeWhile p = l.takeWhile p ∧ (l ++ x :: u).dropWhile p = l.dropWhile p ++ x :: u
  | [] => by simp [hx]
  | a :: l => by
    have h2 := takeWhile_app hx u l
    simp only [List.cons_append, List.takeWhile_cons, List.dropWhile_cons]
    split <;> simp [h2]

theorem skip_blank {c : UInt8} (h : blankB c = true) (u : List UInt8) : skipM false (c :: u) = skipM false u := by
  cases u <;> simp [skipM, h]
theorem b10 : blankB 10 = true := by decide
theorem b32 : blankB 32 = true := by decide
theorem skipM_app (u : List UInt8) : ∀ (b : Bool) (s : List UInt8), skipM b (s ++ 10 :: u) = match skipM b s with | [] => skipM false u | c :: r => (c :: r) ++ 10 :: u
  | true, [] => by simp [skipM]
  | false, [] => by simp [skipM, skip_blank b10]
  | true, c :: r => by
    simp only [List.cons_append, skipM]
    split
    · exact skipM_app u false r
    · exact skipM_app u true r
  | false, [c] => by
    simp only [List.cons_append, List.nil_append, skipM]
    split
    · exact skip_blank b10 u
    · have : ¬ (c.toNat = 47 ∧ (10 : UInt8).toNat = 47) := fun h => by have := h.2; revert this; decide
      rw [if_neg this]; (first | done | rfl)
  | false, c :: d :: r => by
    simp only [List.cons_append, skipM]
    split
    · exact skipM_app u false (d :: r)
    · split
      · exact skipM_app u true r
      · rfl
theorem nb10 : nameB 10 = false := by decide
theorem tb10 : textB 10 = false := by decide
theorem tokS_app (u : List UInt8) {c : UInt8} {r rest t : List UInt8} {k : Nat} (h : tokS c r = some (k, t, rest)) : tokS c (r ++ 10 :: u) = some (k, t, rest ++ 10 :: u) := by
  obtain ⟨e1, e2⟩ := takeWhile_app nb10 u r
  obtain ⟨e3, e4⟩ := takeWhile_app tb10 u r
  unfold tokS at h ⊢
  rw [e1, e2, e3, e4]
  cases h1 : nameB c
  case true =>
    simp only [h1, if_true, Option.some.injEq, Prod.mk.injEq] at h ⊢
    obtain ⟨rfl, rfl, rfl⟩ := h; exact ⟨rfl, rfl, rfl⟩
  case false =>
    simp only [h1, Bool.false_eq_true, if_false] at h ⊢
    by_cases h2 : c.toNat = 34
    · simp only [h2, if_true] at h ⊢
      split at h
      · rename_i d r' hr
        rw [hr]
        split at h
        · rename_i hd
          simp only [Option.some.injEq, Prod.mk.injEq] at h
          obtain ⟨rfl, rfl, rfl⟩ := h
          simp [hd]
        · cases h
      · cases h
    · simp only [h2, if_false] at h ⊢
      by_cases h3 : c.toNat = 45
      · simp only [h3, if_true] at h ⊢
        cases r with
        | nil =>
          simp only at h
          split at h
          · simp only [Option.some.injEq, Prod.mk.injEq] at h
            obtain ⟨rfl, rfl, rfl⟩ := h
            rename_i hc
            simp [hc]
          · cases h
        | cons d r' =>
          simp only [List.cons_append] at h ⊢
          by_cases h4 : d.toNat = 62
          · simp only [h4, if_true, Option.some.injEq, Prod.mk.injEq] at h ⊢
            obtain ⟨rfl, rfl, rfl⟩ := h; exact ⟨rfl, rfl, rfl⟩
          · simp only [h4, if_false] at h ⊢
            split at h
            · rename_i hc
              simp only [Option.some.injEq, Prod.mk.injEq] at h
              obtain ⟨rfl, rfl, rfl⟩ := h
              simp [hc]
            · cases h
      · simp only [h3, if_false] at h ⊢
        split at h
        · rename_i hc
          simp only [Option.some.injEq, Prod.mk.injEq] at h
          obtain ⟨rfl, rfl, rfl⟩ := h
          simp [hc]
        · cases h
theorem tokS_sign {c : UInt8} {r : List UInt8} (h1 : ¬ nameB c = true) (h2 : ¬ c.toNat = 34) (h3 : ¬ (c :: r).take 2 = [45, 62]) : tokS c r = if c ∈ signL then some (3, [c], r) else none := by
  unfold tokS
  rw [if_neg h1, if_neg h2]
  by_cases h : c.toNat = 45
  · rw [if_pos h]
    cases r with
    | nil => rfl
    | cons d r =>
      have : ¬ d.toNat = 62 := fun hd => h3 (by rw [UInt8.toNat_inj.1 (show c.toNat = (45 : UInt8).toNat from h), UInt8.toNat_inj.1 (show d.toNat = (62 : UInt8).toNat from hd)]; (first | done | rfl))
      simp only [this, if_false]
  · rw [if_neg h]
def Tok.up (n : Nat) (x : Tok) : Tok := ⟨x.k, x.t, x.r + n⟩
/-- A text, a line's end, another text. -/
theorem lexF_app (u : List UInt8) (v : List Tok) (m : Nat) (hm : u.length < m) (hv : lexF m u = some v) : ∀ (n : Nat) (s : List UInt8) (l : List Tok), lexF n s = some l → lexF (n + m) (s ++ 10 :: u) = some (l.map (Tok.up (u.length + 1)) ++ v)
  | 0, s, l, h => by simp [lexF] at h
  | n + 1, s, l, h => by
    rw [show n + 1 + m = (n + m) + 1 by omega]
    simp only [lexF] at h ⊢
    have ha := skipM_app u false s
    split at h
    · rename_i hs
      rw [hs] at ha
      simp only [Option.some.injEq] at h; subst h
      have hx : lexF (n + m + 1) u = some v := (lexF_more _ m u (by omega) hm).trans hv
      simp only [lexF] at hx
      rw [ha]
      simpa using hx
    · rename_i c r hs
      rw [hs] at ha
      split at h
      · cases h
      · rename_i k t rest ht
        split at h
        · cases h
        · rename_i l' hl'
          simp only [Option.some.injEq] at h; subst h
          have ht' := tokS_app u ht
          rw [ha]
          simp only [List.cons_append, ht']
          rw [lexF_app u v m hm hv n rest l' hl']
          simp [Tok.up]; omega
theorem skip_remark (t : List UInt8) : ∀ m : List UInt8, (∀ c ∈ m, ¬ c.toNat = 10) → skipM true (m ++ 10 :: t) = skipM false t
  | [], _ => by simp [skipM]
  | c :: m, h => by
    have h1 := h c (List.mem_cons_self ..)
    simp only [List.cons_append, skipM, h1, if_false]
    exact skip_remark t m fun c hc => h c (List.mem_cons_of_mem _ hc)
theorem lex_remarks {s m t : List UInt8} {a b : List Tok} (ha : lexS s = some a) (hb : lexS t = some b) (hm : ∀ c ∈ m, ¬ c.toNat = 10) :
    lexS (s ++ 10 :: 47 :: 47 :: (m ++ 10 :: t)) = some (a.map (Tok.up (m.length + t.length + 4)) ++ b) := by
  have h1 : lexF ((m ++ 10 :: t).length + 3) (47 :: 47 :: (m ++ 10 :: t)) = some b := by
    rw [← hb]
    unfold lexS
    rw [← lexF_more ((m ++ 10 :: t).length + 3) (t.length + 1) t (by simp; omega) (by omega)]
    simp only [lexF]
    have : skipM false (47 :: 47 :: (m ++ 10 :: t)) = skipM false t := by
      rw [← skip_remark t m hm]
      simp [skipM, blankB]
    rw [this]
  have h2 := lexF_app _ b _ (by simp) h1 _ s a ha
  unfold lexS
  rw [lexF_more _ (s.length + 1 + ((m ++ 10 :: t).length + 3)) _ (Nat.lt_succ_self _) (by simp), h2]
  rw [show (47 :: 47 :: (m ++ 10 :: t)).length + 1 = m.length + t.length + 4 by simp; omega]

def Tok.txt (x : Tok) : List UInt8 := if x.k = 2 then 34 :: (x.t ++ [34]) else x.t
def joinT : List Tok → List UInt8
  | [] => []
  | [x] => x.txt
  | x :: y :: l => x.txt ++ 32 :: joinT (y :: l)
/-- What a token is made of. -/
inductive OkT : Nat → List UInt8 → Prop where
  | name (c : UInt8) (l : List UInt8) : nameB c = true → (∀ d ∈ l, nameB d = true) → OkT 1 (c :: l)
  | text (l : List UInt8) : (∀ d ∈ l, textB d = true) → OkT 2 l
  | arrow : OkT 3 [45, 62]
  | sign (c : UInt8) : c ∈ signL → OkT 3 [c]
theorem mem_takeWhile {p : UInt8 → Bool} : ∀ {l : List UInt8} {c : UInt8}, c ∈ l.takeWhile p → p c = true
  | a :: l, c, h => by
    simp only [List.takeWhile_cons] at h
    split at h
    · rcases List.mem_cons.1 h with rfl | h
      · assumption
      · exact mem_takeWhile h
    · cases h
theorem tokS_ok {c : UInt8} {r rest t : List UInt8} {k : Nat} (h : tokS c r = some (k, t, rest)) : OkT k t := by
  unfold tokS at h
  split at h
  · rename_i hc
    simp only [Option.some.injEq, Prod.mk.injEq] at h
    obtain ⟨rfl, rfl, rfl⟩ := h
    exact .name c _ hc fun d hd => mem_takeWhile hd
  · split at h
    · split at h
      · split at h
        · simp only [Option.some.injEq, Prod.mk.injEq] at h
          obtain ⟨rfl, rfl, rfl⟩ := h
          exact .text _ fun d hd => mem_takeWhile hd
        · cases h
      · cases h
    · split at h
      · simp only [Option.some.injEq, Prod.mk.injEq] at h
        obtain ⟨rfl, rfl, rfl⟩ := h
        exact .arrow
      · split at h
        · simp only [Option.some.injEq, Prod.mk.injEq] at h
          obtain ⟨rfl, rfl, rfl⟩ := h
          exact .sign c (by assumption)
        · cases h
theorem lexF_ok : ∀ (n : Nat) (s : List UInt8) (l : List Tok), lexF n s = some l → ∀ x ∈ l, OkT x.k x.t
  | 0, s, l, h => by simp [lexF] at h
  | n + 1, s, l, h => by
    simp only [lexF] at h
    split at h
    · simp only [Option.some.injEq] at h; subst h; intro x hx; cases hx
    · split at h
      · cases h
      · rename_i k t rest ht
        split at h
        · cases h
        · rename_i l' hl'
          simp only [Option.some.injEq] at h; subst h
          intro x hx
          rcases List.mem_cons.1 hx with rfl | hx
          · exact tokS_ok ht
          · exact lexF_ok n rest l' hl' x hx
/-- What begins a token is no blank, no remark. -/
theorem okT_head {k : Nat} {t : List UInt8} (h : OkT k t) (r : Nat) : ∃ c l, Tok.txt ⟨k, t, r⟩ = c :: l ∧ blankB c = false ∧ ¬ c.toNat = 47 := by
  have hn : ∀ n : Nat, n < 256 → nameB (UInt8.ofNat n) = true → blankB (UInt8.ofNat n) = false ∧ ¬ (UInt8.ofNat n).toNat = 47 := by decide +kernel
  have hs : ∀ c ∈ signL, blankB c = false ∧ ¬ c.toNat = 47 := by decide
  cases h with
  | name c l h1 h2 =>
    have := hn c.toNat c.toNat_lt
    rw [UInt8.ofNat_toNat] at this
    exact ⟨c, l, rfl, this h1⟩
  | text l h1 => exact ⟨34, t ++ [34], rfl, by decide, by decide⟩
  | arrow => exact ⟨45, [62], rfl, by decide, by decide⟩
  | sign c h1 => exact ⟨c, [], rfl, hs c h1⟩
theorem nb32 : nameB 32 = false := by decide
/-- A token, a blank, whatever; or nothing. -/
theorem tokS_txt {k : Nat} {t : List UInt8} (h : OkT k t) (r : Nat) {c : UInt8} {l : List UInt8} (e : Tok.txt ⟨k, t, r⟩ = c :: l) : ∀ u : List UInt8, (u = [] ∨ ∃ v, u = 32 :: v) → tokS c (l ++ u) = some (k, t, u) := by
  have hn : ∀ n : Nat, n < 256 → ((UInt8.ofNat n) ∈ signL → nameB (UInt8.ofNat n) = false ∧ ¬ (UInt8.ofNat n).toNat = 34) := by decide +kernel
  intro u hu
  cases h with
  | name c' l' h1 h2 =>
    simp only [Tok.txt, show ¬ (1 = 2) by decide, if_false, List.cons.injEq] at e
    obtain ⟨rfl, rfl⟩ := e
    unfold tokS
    simp only [h1, if_true, Option.some.injEq, Prod.mk.injEq, true_and]
    rcases hu with rfl | ⟨v, rfl⟩
    · simp only [List.append_nil]; obtain ⟨e1, e2⟩ := takeWhile_end l' h2; rw [e1, e2]; exact ⟨rfl, rfl⟩
    · obtain ⟨e1, e2⟩ := takeWhile_stop nb32 v l' h2; rw [e1, e2]; exact ⟨rfl, rfl⟩
  | text l' h1 =>
    simp only [Tok.txt, if_true, List.cons.injEq] at e
    obtain ⟨rfl, rfl⟩ := e
    unfold tokS
    obtain ⟨e1, e2⟩ := takeWhile_stop (p := textB) (x := 34) (by decide) u t h1
    simp only [show nameB 34 = false by decide, Bool.false_eq_true, if_false, show (34 : UInt8).toNat = 34 by decide, if_true, List.append_assoc, List.singleton_append, e1, e2]
  | arrow =>
    simp only [Tok.txt, show ¬ (3 = 2) by decide, if_false, List.cons.injEq] at e
    obtain ⟨rfl, rfl⟩ := e
    rfl
  | sign c' h1 =>
    simp only [Tok.txt, show ¬ (3 = 2) by decide, if_false, List.cons.injEq] at e
    obtain ⟨rfl, rfl⟩ := e
    have h2 := hn c'.toNat c'.toNat_lt
    rw [UInt8.ofNat_toNat] at h2
    obtain ⟨h3, h4⟩ := h2 h1
    unfold tokS
    simp only [h3, Bool.false_eq_true, if_false, h4, List.nil_append, h1, if_true]
    have : (if c'.toNat = 45 then match u with | d :: r' => if d.toNat = 62 then some r' else none | [] => none else none) = none := by
      split
      · rcases hu with rfl | ⟨v, rfl⟩
        · rfl
        · rfl
      · rfl
    rw [this]
theorem skip_head {c : UInt8} {l : List UInt8} (h1 : blankB c = false) (h2 : ¬ c.toNat = 47) : skipM false (c :: l) = c :: l := by
  cases l with
  | nil => simp [skipM, h1]
  | cons d l => simp [skipM, h1, h2]
theorem lex_join : ∀ (l : List Tok), (∀ x ∈ l, OkT x.k x.t) → ∀ n, l.length < n → ∃ l', lexF n (joinT l) = some l' ∧ l'.map (fun x => (x.k, x.t)) = l.map (fun x => (x.k, x.t)) ∧ ∃ l'', lexF n (32 :: joinT l) = some l'' ∧ l''.map (fun x => (x.k, x.t)) = l.map (fun x => (x.k, x.t))
  | [], _, n, hn => by
    cases n with
    | zero => omega
    | succ n => exact ⟨[], rfl, rfl, [], rfl, rfl⟩
  | x :: l, h, n, hn => by
    cases n with
    | zero => omega
    | succ n =>
      obtain ⟨k, t, r⟩ := x
      have hx : OkT k t := h _ (List.mem_cons_self ..)
      obtain ⟨c, m, e, h1, h2⟩ := okT_head hx r
      obtain ⟨l1, a1, b1, l2, a2, b2⟩ := lex_join l (fun x hx => h x (List.mem_cons_of_mem _ hx)) n (by simp at hn; omega)
      have main : ∃ u, joinT (⟨k, t, r⟩ :: l) = c :: (m ++ u) ∧ (u = [] ∨ ∃ v, u = 32 :: v) ∧ ∃ l3, lexF n u = some l3 ∧ l3.map (fun x => (x.k, x.t)) = l.map (fun x => (x.k, x.t)) := by
        cases l with
        | nil => exact ⟨[], by simp [joinT, e], .inl rfl, l1, a1, b1⟩
        | cons y l => exact ⟨32 :: joinT (y :: l), by simp [joinT, e], .inr ⟨_, rfl⟩, l2, a2, b2⟩
      obtain ⟨u, e1, hu, l3, a3, b3⟩ := main
      have ht := tokS_txt hx r e u hu
      have hs : skipM false (joinT (⟨k, t, r⟩ :: l)) = c :: (m ++ u) := by rw [e1]; exact skip_head h1 h2
      have hs' : skipM false (32 :: joinT (⟨k, t, r⟩ :: l)) = c :: (m ++ u) := by
        rw [← hs]; exact skip_blank b32 _
      exact ⟨⟨k, t, (c :: (m ++ u)).length⟩ :: l3, by simp only [lexF, hs, ht, a3], by simp [b3], ⟨k, t, (c :: (m ++ u)).length⟩ :: l3, by simp only [lexF, hs', ht, a3], by simp [b3]⟩
theorem okT_pos {k : Nat} {t : List UInt8} (h : OkT k t) (r : Nat) : 0 < (Tok.txt ⟨k, t, r⟩).length := by
  obtain ⟨c, l, e, _⟩ := okT_head h r; rw [e]; simp
theorem join_len : ∀ (l : List Tok), (∀ x ∈ l, OkT x.k x.t) → l.length ≤ (joinT l).length
  | [], _ => by simp
  | [x], h => okT_pos (h x (List.mem_cons_self ..)) x.r
  | x :: y :: l, h => by
    have h1 := join_len (y :: l) fun x hx => h x (List.mem_cons_of_mem _ hx)
    simp only [joinT, List.length_append, List.length_cons] at *; omega
/-- Tokens that are joined are the same again, but for their places. -/
theorem lex_back {s : List UInt8} {l : List Tok} (h : lexS s = some l) : ∃ l', lexS (joinT l) = some l' ∧ l'.map (fun x => (x.k, x.t)) = l.map (fun x => (x.k, x.t)) := by
  have hok := lexF_ok _ _ _ h
  obtain ⟨l', a, b, _⟩ := lex_join l hok ((joinT l).length + 1) (by have := join_len l hok; omega)
  exact ⟨l', a, b⟩
end Go.Proofs.Ytcgbcbdgjhnlaaa

namespace Go.Proofs.Ytcgbcbdgjhnlaaa
open Go.RowKit

theorem byteAt_get {l : List UInt8} {i : Nat} {c : UInt8} (h : l[i]? = some c) : byteAt l i = c.toNat := by simp [byteAt, h]
theorem drop_get {l r : List UInt8} {i : Nat} {c : UInt8} (h : l.drop i = c :: r) : l[i]? = some c ∧ l.drop (i + 1) = r ∧ i < l.length := by
  have h1 : i < l.length := by
    rcases Nat.lt_or_ge i l.length with h1 | h1
    · exact h1
    · rw [List.drop_eq_nil_of_le h1] at h; cases h
  rw [List.drop_eq_getElem_cons h1, List.cons.injEq] at h
  exact ⟨by rw [List.getElem?_eq_getElem h1, h.1], h.2, h1⟩
theorem take_takeWhile (p : UInt8 → Bool) : ∀ l : List UInt8, l.take (l.takeWhile p).length = l.takeWhile p
  | [] => rfl
  | a :: l => by
    simp only [List.takeWhile_cons]
    split
    · simp [take_takeWhile p l]
    · rfl
theorem drop_takeWhile (p : UInt8 → Bool) : ∀ l : List UInt8, l.drop (l.takeWhile p).length = l.dropWhile p
  | [] => rfl
  | a :: l => by
    simp only [List.takeWhile_cons, List.dropWhile_cons]
    split
    · simp [drop_takeWhile p l]
    · rfl
theorem takeWhile_len (p : UInt8 → Bool) (l : List UInt8) : (l.takeWhile p).length ≤ l.length := by
  have := congrArg List.length (take_takeWhile p l)
  simp at this; omega

def PredB (fid : FuncId) (p : UInt8 → Bool) : Prop := ∀ (c : UInt8) (W : PW), CallsX Try.prog fid ⟨[.int .u8 c.toNat]⟩ [] W fun v _ => v = .bool (p c)

theorem letter_x : PredB 131 nameB := by
  intro c W
  refine pureX hmix Try.func131 r131 (by kernel_rfl) [.int .u8 c.toNat] rfl ?_
  refine ⟨rfl, ?_⟩
  repeat' first
    | refine ⟨rfl, ?_⟩
    | refine br_split (fun h => ?_) (fun h => ?_)
    | refine ret_plain rfl fun _ _ => ?_
  all_goals (congr 1; rw [Bool.eq_iff_iff]; simp only [nameB, Bool.or_eq_true, Bool.and_eq_true, decide_eq_true_eq, true_iff]; omega)
theorem blank_x : PredB 128 blankB := by
  intro c W
  refine pureX hmix Try.func128 r128 (by kernel_rfl) [.int .u8 c.toNat] rfl ?_
  refine ⟨rfl, ?_⟩
  repeat' first
    | refine ⟨rfl, ?_⟩
    | refine br_split (fun h => ?_) (fun h => ?_)
    | refine ret_plain rfl fun _ _ => ?_
  all_goals (congr 1; rw [Bool.eq_iff_iff]; simp only [blankB, Bool.or_eq_true, decide_eq_true_eq, true_iff]; omega)
def lineB (c : UInt8) : Bool := !decide (c.toNat = 10)
theorem line_x : PredB 130 lineB := by
  intro c W
  refine pureX hmix Try.func130 r130 (by kernel_rfl) [.int .u8 c.toNat] rfl ?_
  refine ⟨rfl, ret_plain rfl fun _ _ => ?_⟩
  congr 1; rw [Bool.eq_iff_iff]; simp only [lineB, Bool.not_eq_true', decide_eq_false_iff_not]; omega
theorem textb_x : PredB 159 textB := by
  intro c W
  refine pureX hmix Try.func159 r159 (by kernel_rfl) [.int .u8 c.toNat] rfl ?_
  refine ⟨rfl, ?_⟩
  repeat' first
    | refine ⟨rfl, ?_⟩
    | refine br_split (fun h => ?_) (fun h => ?_)
    | refine ret_plain rfl fun _ _ => ?_
  all_goals (congr 1; rw [Bool.eq_iff_iff]; simp only [textB, Bool.and_eq_true, Bool.not_eq_true', decide_eq_false_iff_not, decide_eq_true_eq, Bool.false_eq_true, false_iff]; omega)

theorem h2' {j : Nat} {s : List UInt8} (h : j ≤ s.length) : (j : Int) ≤ (⟨⟨s⟩⟩ : ByteArray).data.toList.length := by show (j : Int) ≤ s.length; omega
def scanC (s : List UInt8) (i : Nat) : List Value := [strV s, .int .i64 i]
theorem run_x {p : UInt8 → Bool} {fid : FuncId} (hp : PredB fid p) (s : List UInt8) (i : Nat) (hi : i ≤ s.length) (hs : s.length ≤ 16384) (g : Nat) (W : PW) (ho : OwnB W g (scanC s i)) :
    CallsX Try.prog 127 ⟨[.pointer (some ⟨g, 0, none⟩), .func (.func fid) #[] #[]]⟩ [g] W fun v W' => OwnB W' g (scanC s (i + ((s.drop i).takeWhile p).length)) ∧ v = strV ((s.drop i).takeWhile p) := by
  refine methX hmix Try.func127 r127 (by kernel_rfl) ho [.func (.func fid) #[] #[]] rfl ?_
  refine ⟨Nat, fun _ => [], fun j => [[.v (strV s), .v (.int .i64 j)]], fun _ => [], fun j _ => i ≤ j ∧ j ≤ s.length ∧ i + ((s.drop i).takeWhile p).length = j + ((s.drop j).takeWhile p).length, fun j => s.length - j, i,
    all_sl trivial, rfl, ole_refl _, ⟨Nat.le_refl _, hi, rfl⟩, loopOK (fun _ => trivial) (fun _ => rfl) (fun _ => rfl), ?_⟩
  intro j W1 l1 ⟨h1, h2, h3⟩ f
  have fin : ((s.drop j).takeWhile p).length = 0 → ∀ W' : PW, OwnB W' g (scanC s j) → OwnB W' g (scanC s (i + ((s.drop i).takeWhile p).length)) ∧ strV ((s.drop i).take (j - i)) = strV ((s.drop i).takeWhile p) := by
    intro h0 W' hw
    rw [h0] at h3
    refine ⟨by rw [h3]; exact hw, ?_⟩
    rw [← take_takeWhile, show ((s.drop i).takeWhile p).length = j - i by omega]
  refine ⟨rfl, br_split (fun h => ?_) (fun h => ?_)⟩
  · have h : (j : Int) < s.length := h
    have hj : j < s.length := by omega
    have hb : byteAt s (j : Int).toNat = (s[j]).toNat := byteAt_get (List.getElem?_eq_getElem hj)
    have hd : s.drop j = s[j] :: s.drop (j + 1) := List.drop_eq_getElem_cons hj
    refine ⟨⟨by omega, h⟩, ?_⟩
    refine call_v rfl (R := fun _ v _ => v = .bool (p s[j])) (fun W' _ => (congrArg (fun x => CallsX Try.prog fid ⟨[.int .u8 x]⟩ [] W' fun v _ => v = .bool (p s[j])) hb).mpr (hp _ W')) (fun W2 v W3 _ _ hv => ?_)
    subst hv
    refine br_bool (fun hb => ?_) (fun hb => ?_)
    · refine ⟨rfl, _, (i64_in ((j : Int) + 1) ⟨by omega, by omega⟩).symm, j + 1, all_sl trivial, rfl, ole_refl _, ⟨by omega, by omega, ?_⟩, by dsimp only; omega⟩
      rw [h3, hd, List.takeWhile_cons, hb]; simp; omega
    · refine ⟨⟨by omega, by omega, h2' h2⟩, ?_⟩
      exact ret_m1 rfl rfl rfl rfl fun W' _ hw => fin (by rw [hd, List.takeWhile_cons, hb]; (first | done | rfl)) W' hw
  · have h : ¬ (j : Int) < s.length := h
    refine ⟨⟨by omega, by omega, h2' h2⟩, ?_⟩
    exact ret_m1 rfl rfl rfl rfl fun W' _ hw => fin (by rw [List.drop_eq_nil_of_le (by omega)]; (first | done | rfl)) W' hw
theorem hasPrefix0_x (s p : List UInt8) (W : PW) : CallsX Try.prog 158 ⟨[strV s, strV p]⟩ [] W fun v _ => v = .bool (decide (s.take p.length = p)) := by
  refine pureX hmix Try.func158 r158 (by kernel_rfl) [strV s, strV p] rfl ?_
  refine ⟨rfl, ?_⟩
  refine br_split (fun h => ?_) (fun h => ?_)
  · have h : (p.length : Int) ≤ s.length := h
    refine ⟨⟨by omega, ?_, ?_⟩, ret_plain rfl fun _ _ => ?_⟩
    · show (0 : Int) ≤ p.length; omega
    · show (p.length : Int) ≤ s.length; omega
    · show Value.bool (decide ((s.drop (0 : Int).toNat).take ((p.length : Int).toNat - (0 : Int).toNat) = p)) = _
      rfl
  · have h : ¬ (p.length : Int) ≤ s.length := h
    refine ret_plain rfl fun _ _ => ?_
    congr 1; symm; rw [decide_eq_false_iff_not]
    intro e
    have := congrArg List.length e
    simp at this; omega
theorem hasPrefix_x (s p : List UInt8) (W : PW) : CallsX Try.prog 129 ⟨[strV s, strV p]⟩ [] W fun v _ => v = .bool (decide (s.take p.length = p)) := by
  refine pureX hmix Try.func129 r129 (by kernel_rfl) [strV s, strV p] rfl ?_
  refine call_v rfl (fun W' _ => hasPrefix0_x s p W') (fun W2 v W3 _ _ hv => ret_plain rfl fun _ _ => ?_)
  exact hv

theorem takeWhile_le (p : UInt8 → Bool) (s : List UInt8) (i : Nat) (hi : i ≤ s.length) : i + ((s.drop i).takeWhile p).length ≤ s.length := by
  have := takeWhile_len p (s.drop i); rw [List.length_drop] at this; omega
/-- Behind blanks and remarks. -/
theorem skip_run (r : List UInt8) : skipM false r = if (r.dropWhile blankB).take 2 = [47, 47] then skipM false ((r.dropWhile blankB).dropWhile lineB) else r.dropWhile blankB := by
  have h1 : ∀ r : List UInt8, skipM false r = skipM false (r.dropWhile blankB) := by
    intro r
    induction r with
    | nil => rfl
    | cons a r ih =>
      simp only [List.dropWhile_cons]
      split
      · rename_i h; rw [skip_blank h, ih]
      · rfl
  have h2 : ∀ r : List UInt8, skipM true r = skipM false (r.dropWhile lineB) := by
    intro r
    induction r with
    | nil => rfl
    | cons a r ih =>
      simp only [List.dropWhile_cons, lineB, skipM]
      by_cases ha : a.toNat = 10
      · have hb : blankB a = true := by simp [blankB, ha]
        simp [ha, skip_blank hb]
      · simp only [ha, if_false, decide_false, Bool.not_false, if_true]; exact ih
  rw [h1]
  have hb : ∀ c t, r.dropWhile blankB = c :: t → blankB c = false := by
    intro c t e
    have := List.head?_dropWhile_not blankB r
    rw [e] at this; simpa using this
  cases hd : r.dropWhile blankB with
  | nil => rfl
  | cons c t =>
    have hc := hb c t hd
    cases t with
    | nil =>
      have : ¬ ([c].take 2 = [47, 47]) := by simp
      rw [if_neg this]; simp [skipM, hc]
    | cons d t =>
      by_cases h : c.toNat = 47 ∧ d.toNat = 47
      · have e1 : c = 47 := UInt8.toNat_inj.1 h.1
        have e2 : d = 47 := UInt8.toNat_inj.1 h.2
        subst e1 e2
        rw [if_pos (by rfl)]
        have : skipM false (47 :: 47 :: t) = skipM true t := by simp [skipM, hc]
        rw [this, h2]
        (first | done | rfl)
      · have : ¬ ((c :: d :: t).take 2 = [47, 47]) := by
          intro e
          simp only [List.take_succ_cons, List.take_zero, List.cons.injEq, and_true] at e
          rw [e.1, e.2] at h; exact h ⟨rfl, rfl⟩
        rw [if_neg this]; simp [skipM, hc, h]
theorem skip_x (s : List UInt8) (hs : s.length ≤ 16384) (g : Nat) (W : PW) (i : Nat) (hi : i ≤ s.length) (ho : OwnB W g (scanC s i)) :
    CallsX Try.prog 80 ⟨[.pointer (some ⟨g, 0, none⟩)]⟩ [g] W fun _ W' => ∃ j, j ≤ s.length ∧ s.drop j = skipM false (s.drop i) ∧ OwnB W' g (scanC s j) := by
  refine methX hmix Try.func80 r80 (by kernel_rfl) ho [] rfl ?_
  refine ⟨Nat, fun _ => [], fun j => [[.v (strV s), .v (.int .i64 j)]], fun _ => [], fun j _ => j ≤ s.length ∧ skipM false (s.drop i) = skipM false (s.drop j), fun j => s.length - j, i,
    all_sl trivial, rfl, ole_refl _, ⟨hi, rfl⟩, loopOK (fun _ => trivial) (fun _ => rfl) (fun _ => rfl), ?_⟩
  intro j W1 l1 ⟨h1, h2⟩ f
  refine call_m1 rfl rfl rfl rfl k127 (fun g' W' _ how => (run_x blank_x s j h1 hs g' W' how).mono fun v W2 ⟨hw, _⟩ _ => ⟨_, hw, ?_⟩)
  have hj2 := takeWhile_le blankB s j h1
  have hd2 : s.drop (j + ((s.drop j).takeWhile blankB).length) = (s.drop j).dropWhile blankB := by rw [← drop_takeWhile, List.drop_drop]
  have hsk := skip_run (s.drop j)
  rw [← hd2] at hsk
  have hjk := Nat.le_add_right j ((s.drop j).takeWhile blankB).length
  generalize j + ((s.drop j).takeWhile blankB).length = k at hj2 hd2 hsk hw hjk
  refine ⟨⟨by omega, h2' hj2, Int.le_refl _⟩, ?_⟩
  refine call_v rfl (fun W' _ => hasPrefix_x _ _ W') (fun W3 v W4 _ _ hv => ?_)
  subst hv
  have hcut : ((s.drop k).take (s.length - k)) = s.drop k := by rw [List.take_of_length_le]; simp
  refine br_nsplit (fun hp => ?_) (fun hp => ?_)
  · have hp : ¬ (((s.drop k).take (s.length - k)).take 2 = [47, 47]) := hp
    rw [hcut] at hp
    exact ret_m1 rfl rfl rfl rfl fun W' _ hw => ⟨k, hj2, by rw [h2, hsk, if_neg hp], hw⟩
  · have hp : ((s.drop k).take (s.length - k)).take 2 = [47, 47] := hp
    rw [hcut] at hp
    refine call_m1 rfl rfl rfl rfl k127 (fun g' W' _ how => (run_x line_x s k hj2 hs g' W' how).mono fun v W5 ⟨hw, _⟩ _ => ⟨_, hw, ?_⟩)
    have hm := takeWhile_le lineB s k hj2
    have hdm : s.drop (k + ((s.drop k).takeWhile lineB).length) = (s.drop k).dropWhile lineB := by rw [← drop_takeWhile, List.drop_drop]
    have hpos : 0 < ((s.drop k).takeWhile lineB).length := by
      cases hc : s.drop k with
      | nil => rw [hc] at hp; simp at hp
      | cons c r =>
        rw [hc] at hp
        have : c = 47 := by
          cases r with
          | nil => simp at hp
          | cons d r => simp at hp; exact hp.1
        subst this
        simp [lineB]
    refine ⟨_, all_sl trivial, rfl, ole_refl _, ⟨hm, ?_⟩, by dsimp only; omega⟩
    rw [h2, hsk, if_pos hp, hdm]
end Go.Proofs.Ytcgbcbdgjhnlaaa

namespace Go.Proofs.Ytcgbcbdgjhnlaaa
open Go.RowKit

theorem u8_back (c : UInt8) : ((c.toNat : Int)).toNat.toUInt8 = c := by simp
theorem indexByte_neg (c : UInt8) : ∀ l : List UInt8, -1 ≤ Lib.indexByte l c ∧ (0 ≤ Lib.indexByte l c ↔ c ∈ l)
  | [] => by simp [Lib.indexByte]
  | a :: l => by
    obtain ⟨h1, h2⟩ := indexByte_neg c l
    simp only [Lib.indexByte]
    by_cases ha : a = c
    · subst ha; simp
    · have hc : ¬ c = a := fun e => ha e.symm
      have h0 : (a == c) = false := by simp [ha]
      rw [h0]
      simp only [Bool.false_eq_true, if_false, List.mem_cons, hc, false_or]
      by_cases hm : Lib.indexByte l c = -1
      · rw [hm] at h2 ⊢
        simp only [beq_self_eq_true, if_true]
        exact ⟨by omega, h2⟩
      · have : (Lib.indexByte l c == -1) = false := by simp [hm]
        rw [this]
        simp only [Bool.false_eq_true, if_false]
        rw [← h2]
        omega
theorem indexByte_x (l : List UInt8) (c : UInt8) (W : PW) : CallsX Try.prog 133 ⟨[strV l, .int .u8 c.toNat]⟩ [] W fun v _ => v = .int .i64 (Lib.indexByte l c) := by
  have h := Try.strings_IndexByte ⟨⟨l⟩⟩ c.toNat W.w
  rw [u8_back] at h
  exact CallsX.of_same ⟨_, Try.func133, by kernel_rfl, by kernel_rfl⟩ h

theorem text_x (s : List UInt8) (hs : s.length ≤ 16384) (g : Nat) (W : PW) (i : Nat) (hi : i < s.length) (ho : OwnB W g (scanC s i)) :
    CallsX Try.prog 132 ⟨[.pointer (some ⟨g, 0, none⟩)]⟩ [g] W fun v W' => ∃ j, j ≤ s.length ∧ OwnB W' g (scanC s j) ∧
      ((∃ d r', (s.drop (i + 1)).dropWhile textB = d :: r' ∧ d.toNat = 34 ∧ v = .tuple ⟨[strV ((s.drop (i + 1)).takeWhile textB), .bool true]⟩ ∧ s.drop j = r') ∨
       ((∀ d r', (s.drop (i + 1)).dropWhile textB = d :: r' → ¬ d.toNat = 34) ∧ v = .tuple ⟨[strV [], .bool false]⟩)) := by
  refine methX hmix Try.func132 r132 (by kernel_rfl) ho [] rfl ?_
  refine ⟨rfl, _, (i64_in ((i : Int) + 1) ⟨by omega, by omega⟩).symm, ?_⟩
  refine call_m1 rfl rfl rfl rfl k127 (fun g' W' _ how => (run_x textb_x s (i + 1) (by omega) hs g' W' how).mono fun v W2 ⟨hw, hv⟩ _ => ⟨_, hw, ?_⟩)
  subst hv
  have hj := takeWhile_le textB s (i + 1) (by omega)
  have hd : s.drop (i + 1 + ((s.drop (i + 1)).takeWhile textB).length) = (s.drop (i + 1)).dropWhile textB := by rw [← drop_takeWhile, List.drop_drop]
  generalize i + 1 + ((s.drop (i + 1)).takeWhile textB).length = j at hj hd hw
  refine ⟨rfl, br_split (fun h => ?_) (fun h => ?_)⟩
  · have h : (j : Int) = s.length := h
    refine ret_m1 rfl rfl rfl rfl fun W' _ hw => ⟨j, hj, hw, .inr ⟨fun d r' e => ?_, rfl⟩⟩
    rw [← hd, List.drop_eq_nil_of_le (by omega)] at e; cases e
  · have h : ¬ (j : Int) = s.length := h
    have hlt : j < s.length := by omega
    have hc : s.drop j = s[j] :: s.drop (j + 1) := List.drop_eq_getElem_cons hlt
    have hb : byteAt s j = (s[j]).toNat := byteAt_get (List.getElem?_eq_getElem hlt)
    refine ⟨⟨by omega, show (j : Int) < s.length by omega⟩, rfl, br_nsplit (fun h2 => ?_) (fun h2 => ?_)⟩
    · have h2 : ¬ byteAt s j = 34 := h2
      rw [hb] at h2
      refine ret_m1 rfl rfl rfl rfl fun W' _ hw => ⟨j, hj, hw, .inr ⟨fun d r' e => ?_, rfl⟩⟩
      rw [← hd, hc, List.cons.injEq] at e
      rw [← e.1]; omega
    · have h2 : byteAt s j = 34 := h2
      rw [hb] at h2
      refine ⟨rfl, _, (i64_in ((j : Int) + 1) ⟨by omega, by omega⟩).symm, ?_⟩
      refine ret_m1 rfl rfl rfl rfl fun W' _ hw => ⟨j + 1, by omega, hw, .inl ⟨s[j], s.drop (j + 1), by rw [← hd, hc], by omega, rfl, rfl⟩⟩

def tokC (n : Nat) (x : Tok) : List Value := [.int .i64 x.k, strV x.t, .int .i64 ((n : Int) - x.r)]
theorem tokC_len (n : Nat) (x : Tok) : (tokC n x).length = 3 := rfl
theorem token_x (s : List UInt8) (hs : s.length ≤ 16384) (g : Nat) (W : PW) (i : Nat) (c : UInt8) (r : List UInt8) (hc : s.drop i = c :: r) (ho : OwnB W g (scanC s i)) :
    CallsX Try.prog 81 ⟨[.pointer (some ⟨g, 0, none⟩)]⟩ [g] W fun v W' => ∃ j, j ≤ s.length ∧ OwnB W' g (scanC s j) ∧
      match tokS c r with
      | some (k, t, rest) => v = .tuple ⟨[.agg ⟨[.int .i64 k, strV t, .int .i64 i]⟩, .bool true]⟩ ∧ s.drop j = rest
      | none => ∃ (k : Int) (t : List UInt8), v = .tuple ⟨[.agg ⟨[.int .i64 k, strV t, .int .i64 i]⟩, .bool false]⟩ := by
  obtain ⟨hg, hr, hlt⟩ := drop_get hc
  have hb : byteAt s i = c.toNat := byteAt_get hg
  have hsr : s.length = i + 1 + r.length := by have := congrArg List.length hr; simp at this; omega
  refine methX hmix Try.func81 r81 (by kernel_rfl) ho [] rfl ?_
  refine ⟨⟨by omega, show (i : Int) < s.length by omega⟩, ?_⟩
  refine call_v rfl (R := fun _ v _ => v = .bool (nameB c)) (fun W' _ => (congrArg (fun x => CallsX Try.prog 131 ⟨[.int .u8 x]⟩ [] W' fun v _ => v = .bool (nameB c)) hb).mpr (letter_x _ W')) (fun W2 v W3 _ _ hv => ?_)
  subst hv
  refine br_bool (fun hn => ?_) (fun hn => ?_)
  · refine call_m1 rfl rfl rfl rfl k127 (fun g' W' _ how => (run_x letter_x s i (by omega) hs g' W' how).mono fun v W2 ⟨hw, hv⟩ _ => ⟨_, hw, ?_⟩)
    subst hv
    refine ret_m1 rfl rfl rfl rfl fun W' _ hw => ⟨_, takeWhile_le nameB s i (by omega), hw, ?_⟩
    have ht : tokS c r = some (1, c :: r.takeWhile nameB, r.dropWhile nameB) := by unfold tokS; rw [if_pos hn]
    have hw1 : (s.drop i).takeWhile nameB = c :: r.takeWhile nameB := by rw [hc, List.takeWhile_cons, hn]; (first | done | rfl)
    rw [ht, hw1]
    refine ⟨rfl, ?_⟩
    rw [← hw1, ← List.drop_drop, drop_takeWhile, hc, List.dropWhile_cons, hn]; (first | done | rfl)
  have hn' : ¬ nameB c = true := by rw [hn]; exact Bool.false_ne_true
  refine ⟨rfl, br_split (fun h34 => ?_) (fun h34 => ?_)⟩
  · have h34 : byteAt s i = 34 := h34
    rw [hb] at h34
    have h34' : c.toNat = 34 := by omega
    refine call_m1 rfl rfl rfl rfl k132 (fun g' W' _ how => (text_x s hs g' W' i hlt how).mono fun v W2 ⟨j, hj, hw, hv⟩ _ => ⟨_, hw, ?_⟩)
    rw [hr] at hv
    rcases hv with ⟨d, r', e1, e2, rfl, e3⟩ | ⟨e1, rfl⟩
    · refine ⟨_, rfl, _, rfl, ?_⟩
      refine ret_m1 rfl rfl rfl rfl fun W' _ hw => ⟨j, hj, hw, ?_⟩
      have ht : tokS c r = some (2, r.takeWhile textB, r') := by unfold tokS; rw [if_neg hn', if_pos h34', e1]; exact if_pos e2
      rw [ht]; exact ⟨rfl, e3⟩
    · refine ⟨_, rfl, _, rfl, ?_⟩
      refine ret_m1 rfl rfl rfl rfl fun W' _ hw => ⟨j, hj, hw, ?_⟩
      have ht : tokS c r = none := by
        unfold tokS; rw [if_neg hn', if_pos h34']
        cases e : r.dropWhile textB with
        | nil => rfl
        | cons d r' => exact if_neg (e1 d r' e)
      rw [ht]; exact ⟨_, [], rfl⟩
  have h34 : ¬ byteAt s i = 34 := h34
  rw [hb] at h34
  have h34' : ¬ c.toNat = 34 := by omega
  have hcut : (s.drop i).take (s.length - i) = c :: r := by rw [hc, List.take_of_length_le]; simp; omega
  refine ⟨⟨by omega, h2' (by omega), Int.le_refl _⟩, ?_⟩
  refine call_v rfl (fun W' _ => hasPrefix_x _ _ W') (fun W3 v W4 _ _ hv => ?_)
  subst hv
  refine br_split (fun hp => ?_) (fun hp => ?_)
  · have hp : ((s.drop i).take (s.length - i)).take 2 = [45, 62] := hp
    rw [hcut] at hp
    refine ⟨rfl, _, (i64_in ((i : Int) + 2) ⟨by omega, by omega⟩).symm, ?_⟩
    have hr2 : ∃ r', r = 62 :: r' ∧ c = 45 := by
      cases r with
      | nil => simp at hp
      | cons d r => simp at hp; exact ⟨r, by rw [hp.2], hp.1⟩
    obtain ⟨r', rfl, rfl⟩ := hr2
    simp only [List.length_cons] at hsr
    refine ret_m1 rfl rfl rfl rfl fun W' _ hw => ⟨i + 2, by omega, hw, ?_⟩
    exact ⟨rfl, (drop_get hr).2.1⟩
  · have hp : ¬ ((s.drop i).take (s.length - i)).take 2 = [45, 62] := hp
    rw [hcut] at hp
    refine call_v rfl (R := fun _ v _ => v = .int .i64 (Lib.indexByte signL c)) (fun W' _ => (congrArg (fun x => CallsX Try.prog 133 ⟨[strV signL, .int .u8 x]⟩ [] W' fun v _ => v = .int .i64 (Lib.indexByte signL c)) hb).mpr (indexByte_x _ _ W')) (fun W5 v W6 _ _ hv => ?_)
    subst hv
    obtain ⟨_, hm⟩ := indexByte_neg c signL
    refine ⟨rfl, br_split (fun hs1 => ?_) (fun hs1 => ?_)⟩
    · have hin := hm.1 hs1
      refine ⟨rfl, _, (i64_in ((i : Int) + 1) ⟨by omega, by omega⟩).symm, ⟨by omega, by omega, show (i : Int) + 1 ≤ s.length by omega⟩, rfl, _, (i64_in ((i : Int) + 1) ⟨by omega, by omega⟩).symm, ?_⟩
      refine ret_m1 rfl rfl rfl rfl fun W' _ hw => ⟨i + 1, by omega, hw, ?_⟩
      have ht : tokS c r = some (3, [c], r) := by rw [tokS_sign hn' h34' hp, if_pos hin]
      rw [ht]
      refine ⟨?_, hr⟩
      have : (s.drop i).take (((i : Int) + 1).toNat - i) = [c] := by rw [hc, show ((i : Int) + 1).toNat - i = 1 by omega]; (first | done | rfl)
      show Value.tuple ⟨[.agg ⟨[.int .i64 3, strV ((s.drop i).take (((i : Int) + 1).toNat - i)), .int .i64 i]⟩, .bool true]⟩ = _
      rw [this]; (first | done | rfl)
    · refine ret_m1 rfl rfl rfl rfl fun W' _ hw => ⟨i, by omega, hw, ?_⟩
      have ht : tokS c r = none := by rw [tokS_sign hn' h34' hp]; exact if_neg fun h => hs1 (hm.2 h)
      rw [ht]; exact ⟨_, [], rfl⟩
end Go.Proofs.Ytcgbcbdgjhnlaaa

namespace Go.Proofs.Ytcgbcbdgjhnlaaa
open Go.RowKit

/-- The tokens; what is wrong: 0, 4, 5. -/
def lexA (s : List UInt8) : List Tok × Int := if 16384 < s.length then ([], 5) else match lexS s with | some l => (l, 0) | none => ([], 4)
def appT (a : List Tok) : Option (List Tok) → Option (List Tok)
  | some l => some (a ++ l)
  | none => none
theorem tokC_one (n : Nat) (x : Tok) : ∀ u ∈ tokC n x, u.oneCell' = true := by
  intro u hu
  simp only [tokC, List.mem_cons, List.not_mem_nil, or_false] at hu
  rcases hu with rfl | rfl | rfl <;> rfl
theorem lex_x (s : List UInt8) (W : PW) : CallsX Try.prog 22 ⟨[strV s]⟩ [] W fun v W' => ∃ u, v = .tuple ⟨[u, .int .i64 (lexA s).2]⟩ ∧ RP (tokC s.length) W' u (lexA s).1 := by
  refine pureNX hmix Try.func22 r22 (by kernel_rfl) [nilO 29 3] rfl [strV s] rfl ?_
  refine ⟨rfl, br_split (fun h => ?_) (fun h => ?_)⟩
  · have h : (16384 : Int) < s.length := h
    refine ret_plain rfl fun W' _ => ⟨.slice none 0 0, ?_, ?_⟩
    · rw [lexA, if_pos (by omega)]
    · rw [lexA, if_pos (by omega)]; exact RP.nil _ _
  have h : ¬ (16384 : Int) < s.length := h
  have hs : s.length ≤ 16384 := by omega
  have hA : lexA s = match lexS s with | some l => (l, 0) | none => ([], 4) := by rw [lexA, if_neg (by omega)]
  refine ⟨Nat × Value × List Tok, fun t => [(5, .v t.2.1)], fun t => [[.v (strV s), .v (.int .i64 t.1)]], fun t => [⟨t.2.1, 29, 3, t.2.2.length, (t.2.2.map (tokC s.length)).flatten⟩],
    fun t _ => t.1 ≤ s.length ∧ t.2.2.length ≤ t.1 ∧ (∃ A c, t.2.1 = .slice A t.2.2.length c) ∧ ∀ n, (s.drop t.1).length < n → lexS s = appT t.2.2 (lexF n (s.drop t.1)), fun t => s.length - t.1, (0, .slice none 0 0, []),
    all_sl ⟨rfl, trivial⟩, rfl, ole_refl _, ⟨Nat.zero_le _, Nat.le_refl _, ⟨none, 0, rfl⟩, fun n hn => ?_⟩, loopOK (fun _ => ⟨⟨trivial, rfl⟩, trivial⟩) (fun _ => rfl) (fun _ => rfl), ?_⟩
  · show lexS s = appT [] (lexF n s)
    rw [lexF_more n (s.length + 1) s hn (Nat.lt_succ_self _)]
    unfold lexS
    cases lexF (s.length + 1) s <;> rfl
  rintro ⟨j, u, acc⟩ W1 l1 ⟨h1, h2, ⟨A, c0, hu⟩, h3⟩ f
  dsimp only at h1 h2 hu h3
  subst hu
  refine call_m1 rfl rfl rfl rfl k80 (fun g' W' _ how => (skip_x s hs g' W' j h1 how).mono fun v W2 ⟨k, hk, hdk, hw⟩ _ => ⟨_, hw, ?_⟩)
  have h3' : lexS s = appT acc (lexF ((s.drop j).length + 1) (s.drop j)) := h3 _ (Nat.lt_succ_self _)
  have hjk : j ≤ k := by
    have := congrArg List.length hdk
    have h5 := skipM_len false (s.drop j)
    rw [← this] at h5
    simp only [List.length_drop] at h5; omega
  simp only [lexF] at h3'
  rw [← hdk] at h3'
  refine ⟨rfl, br_split (fun hq => ?_) (fun hq => ?_)⟩
  · have hq : (k : Int) = s.length := hq
    rw [List.drop_eq_nil_of_le (by omega)] at h3'
    have e : lexA s = (acc, 0) := by rw [hA, h3']; simp [appT]
    refine RetVC.freeze (fun _ hb => hb) (i := 0) rfl fun W3 _ hf => ret_plain rfl fun W4 l4 => ?_
    rw [e]
    exact ⟨_, rfl, hf.mono l4⟩
  have hq : ¬ (k : Int) = s.length := hq
  have hkl : k < s.length := by omega
  have hc : s.drop k = s[k] :: s.drop (k + 1) := List.drop_eq_getElem_cons hkl
  generalize s[k] = c at hc
  generalize s.drop (k + 1) = r at hc
  rw [hc] at h3'
  dsimp only at h3'
  refine call_m1 rfl rfl rfl rfl k81 (fun g' W' _ how => (token_x s hs g' W' k c r hc how).mono fun v W3 ⟨m, hm, hw, hv⟩ _ => ⟨_, hw, ?_⟩)
  have hrl : r.length + 1 = s.length - k := by have := congrArg List.length hc; simpa using this.symm
  cases ht : tokS c r with
  | none =>
    rw [ht] at hv h3'
    obtain ⟨kk, tt, rfl⟩ := hv
    have e : lexA s = ([], 4) := by rw [hA, h3']; (first | done | rfl)
    refine ⟨_, rfl, _, rfl, ?_⟩
    refine ret_plain rfl fun W' _ => ⟨.slice none 0 0, ?_, ?_⟩
    · rw [e]
    · rw [e]; exact RP.nil _ _
  | some p =>
    obtain ⟨k', t, rest⟩ := p
    rw [ht] at hv h3'
    obtain ⟨rfl, hrest⟩ := hv
    have hlen := tokS_len ht
    have hml : k < m := by
      have := congrArg List.length hrest
      simp only [List.length_drop] at this; omega
    refine ⟨_, rfl, _, rfl, rfl, .inl fun b W4 _ hr => ⟨0, _, tokC s.length ⟨k', t, (c :: r).length⟩, rfl, rfl, rfl, rfl, rfl, tokC_one _ _, fun _ => ⟨_, rfl, ?_⟩, ?_, ?_, rfl, @fun A' c' _ => ?_⟩⟩
    · have e : (s.length : Int) - (c :: r).length = k := by simp only [List.length_cons]; omega
      unfold tokC; dsimp only; rw [e]; exact hr.o
    · show acc.length + 1 ≤ maxLen
      have : (20000 : Nat) ≤ maxLen := by decide
      omega
    · show (acc.length + 1) * 32 ≤ 140737488355328; omega
    · refine ⟨(m, .slice A' (acc.length + 1) c', acc ++ [⟨k', t, (c :: r).length⟩]), all_sl ⟨rfl, trivial⟩, rfl, ole_eq ?_, ⟨hm, ?_, ⟨A', c', by simp⟩, fun n hn => ?_⟩, by dsimp only; omega⟩
      · show [_] = [_]
        simp
      · simp; omega
      · rw [hrest] at hn ⊢
        rw [h3', lexF_more n ((s.drop j).length) rest hn (by simp only [List.length_drop]; omega)]
        dsimp only
        cases lexF (s.drop j).length rest <;> simp [appT]
end Go.Proofs.Ytcgbcbdgjhnlaaa

namespace Go.Proofs.Ytcgbcbdgjhnlaaa

theorem joinT_snoc (x : Tok) : ∀ l : List Tok, joinT (l ++ [x]) = match l with | [] => x.txt | y :: r => joinT (y :: r) ++ 32 :: x.txt
  | [] => rfl
  | [y] => rfl
  | y :: z :: l => by
    have := joinT_snoc x (z :: l)
    simp only [List.cons_append] at this ⊢
    simp only [joinT, this]
    simp
theorem tokS_tlen {c : UInt8} {r rest t : List UInt8} {k : Nat} (h : tokS c r = some (k, t, rest)) : t.length ≤ (c :: r).length := by
  have tw : ∀ (p : UInt8 → Bool) (l : List UInt8), (l.takeWhile p).length ≤ l.length := by
    intro p l
    induction l with
    | nil => simp
    | cons a l ih => simp only [List.takeWhile_cons]; split <;> simp only [List.length_cons, List.length_nil] <;> omega
  unfold tokS at h
  split at h
  · simp only [Option.some.injEq, Prod.mk.injEq] at h
    rw [← h.2.1]; have := tw nameB r; simp only [List.length_cons]; omega
  · split at h
    · split at h
      · split at h
        · simp only [Option.some.injEq, Prod.mk.injEq] at h
          rw [← h.2.1]; have := tw textB r; simp only [List.length_cons]; omega
        · cases h
      · cases h
    · split at h
      · rename_i r' hr
        simp only [Option.some.injEq, Prod.mk.injEq] at h
        rw [← h.2.1]
        split at hr
        · split at hr
          · simp only [List.length_cons, List.length_nil]; omega
          · cases hr
        · cases hr
      · split at h
        · simp only [Option.some.injEq, Prod.mk.injEq] at h
          rw [← h.2.1]; simp
        · cases h
theorem lexF_tlen : ∀ (n : Nat) (s : List UInt8) (l : List Tok), lexF n s = some l → ∀ x ∈ l, x.t.length ≤ s.length
  | 0, s, l, h => by simp [lexF] at h
  | n + 1, s, l, h => by
    simp only [lexF] at h
    have h0 := skipM_len false s
    split at h
    · simp only [Option.some.injEq] at h; subst h; intro x hx; cases hx
    · rename_i c r hc
      rw [hc] at h0
      split at h
      · cases h
      · rename_i k t rest ht
        split at h
        · cases h
        · rename_i l' hl'
          simp only [Option.some.injEq] at h; subst h
          intro x hx
          rcases List.mem_cons.1 hx with rfl | hx
          · have := tokS_tlen ht; dsimp only at *; omega
          · have h1 := lexF_tlen n rest l' hl' x hx
            have h2 := tokS_len ht
            simp only [List.length_cons] at h0; omega
theorem txt_len (x : Tok) : x.txt.length ≤ x.t.length + 2 := by
  unfold Tok.txt; split <;> simp
theorem joinT_len {m : Nat} : ∀ l : List Tok, (∀ x ∈ l, x.t.length ≤ m) → (joinT l).length ≤ l.length * (m + 3)
  | [], _ => by simp [joinT]
  | [x], h => by
    have h1 := txt_len x
    have h2 := h x (List.mem_cons_self ..)
    simp only [joinT, List.length_cons, List.length_nil]; omega
  | x :: y :: l, h => by
    have h1 := txt_len x
    have h2 := h x (List.mem_cons_self ..)
    have h3 := joinT_len (y :: l) fun x hx => h x (List.mem_cons_of_mem _ hx)
    simp only [joinT, List.length_append, List.length_cons] at h3 ⊢
    have : (l.length + 1 + 1) * (m + 3) = (l.length + 1) * (m + 3) + (m + 3) := by rw [Nat.add_mul (l.length + 1)]; omega
    omega
/-- Blanks, remarks, tokens, place by place. -/
theorem lexF_blank {c : UInt8} (h : blankB c = true) (n : Nat) (r : List UInt8) : lexF n (c :: r) = lexF n r := by
  cases n with
  | zero => rfl
  | succ n => simp only [lexF, skip_blank h]
theorem lexF_nil (n : Nat) (h : 0 < n) : lexF n [] = some [] := by
  cases n with
  | zero => omega
  | succ n => rfl
theorem lexF_tok {c : UInt8} {r : List UInt8} (h1 : blankB c = false) (h2 : ¬ (c.toNat = 47 ∧ ∃ d r', r = d :: r' ∧ d.toNat = 47)) (n : Nat) : lexF (n + 1) (c :: r) = match tokS c r with
    | none => none
    | some (k, t, rest) => match lexF n rest with
      | none => none
      | some l => some (⟨k, t, (c :: r).length⟩ :: l) := by
  have hs : skipM false (c :: r) = c :: r := by
    cases r with
    | nil => simp [skipM, h1]
    | cons d r =>
      have : ¬ (c.toNat = 47 ∧ d.toNat = 47) := fun h => h2 ⟨h.1, d, r, rfl, h.2⟩
      simp [skipM, h1, this]
  rw [lexF, hs]
  (first | done | rfl)
end Go.Proofs.Ytcgbcbdgjhnlaaa

namespace Go.Proofs.Ytcgbcbdgjhnlaaa
open Go.RowKit
theorem short_x (s : List UInt8) (n : Nat) (W : PW) : CallsX Try.prog 21 ⟨[strV s, .int .i64 n]⟩ [] W fun v _ => v = strV (s.take n) := by
  refine pureX hmix Try.func21 r21 (by kernel_rfl) [strV s, .int .i64 n] rfl ?_
  refine ⟨rfl, br_split (fun h => ?_) (fun h => ?_)⟩
  · have h : (n : Int) < s.length := h
    refine ⟨⟨by omega, by omega, show (n : Int) ≤ s.length by omega⟩, ret_plain rfl fun _ _ => rfl⟩
  · have h : ¬ (n : Int) < s.length := h
    refine ret_plain rfl fun _ _ => ?_
    rw [List.take_of_length_le (by omega)]; (first | done | rfl)
theorem within_x (x : Int) (lo hi : Int) (W : PW) : CallsX Try.prog 24 ⟨[.int .i64 x, .int .i64 lo, .int .i64 hi]⟩ [] W fun v _ => v = .int .i64 (if x < lo then lo else if hi < x then hi else x) := by
  refine pureX hmix Try.func24 r24 (by kernel_rfl) [.int .i64 x, .int .i64 lo, .int .i64 hi] rfl ?_
  refine ⟨rfl, br_split (fun h => ?_) (fun h => ?_)⟩
  · exact ret_plain rfl fun _ _ => by simp [h]
  refine ⟨rfl, br_split (fun h2 => ?_) (fun h2 => ?_)⟩ <;> exact ret_plain rfl fun _ _ => by simp [h, h2]
end Go.Proofs.Ytcgbcbdgjhnlaaa

namespace Go.Proofs.Ytcgbcbdgjhnlaaa
open Go.RowKit

theorem lexlives_x (W : PW) : CallsX Try.prog 23 ⟨[]⟩ [] W fun v _ => v = .bool true := by
  refine pureX hmix Try.func23 r23 (by kernel_rfl) [] rfl ?_
  have e : lexA [97, 45, 62, 98] = ([⟨1, [97], 4⟩, ⟨3, [45, 62], 3⟩, ⟨1, [98], 1⟩], 0) := by rfl
  refine call_v rfl (fun W' _ => lex_x [97, 45, 62, 98] W') (fun W2 v W3 _ _ hv => ?_)
  rw [e] at hv
  obtain ⟨u, rfl, hu⟩ := hv
  obtain ⟨A, c, rfl, _, _⟩ := hu.form
  refine ⟨_, rfl, _, rfl, rfl, rfl, ⟨by decide, by decide⟩, ?_⟩
  obtain ⟨a, rfl, x, hx, hr, _, _⟩ := hu.at (sz := 3) (fun _ => rfl) (PW.Le.refl _) (j := 1) ⟨by decide, by decide⟩
  have hx : some (⟨3, [45, 62], 3⟩ : Tok) = some x := hx
  simp only [Option.some.injEq] at hx
  subst hx
  refine ⟨a, rfl, _, (hr 1 _ rfl).o, ?_⟩
  exact ret_plain rfl fun _ _ => rfl

theorem lex_blanks : ∀ n m : Nat, 0 < m → lexF m (List.replicate n 32) = some []
  | n, 0, h => by omega
  | n, m + 1, _ => by
    have : ∀ n : Nat, skipM false (List.replicate n 32) = [] := by
      intro n
      induction n with
      | zero => rfl
      | succ n ih => rw [List.replicate_succ, skip_blank b32, ih]
    simp only [lexF, this]
theorem lex_a (n : Nat) : lexS (97 :: List.replicate n 32) = some [⟨1, [97], n + 1⟩] := by
  have h1 : skipM false (97 :: List.replicate n 32) = 97 :: List.replicate n 32 := skip_head (by decide) (by decide)
  have h2 : tokS 97 (List.replicate n 32) = some (1, [97], List.replicate n 32) := by
    have ht : (List.replicate n (32 : UInt8)).takeWhile nameB = [] := by
      cases n with
      | zero => rfl
      | succ n => rw [List.replicate_succ, List.takeWhile_cons]; (first | done | rfl)
    have hd : (List.replicate n (32 : UInt8)).dropWhile nameB = List.replicate n 32 := by
      cases n with
      | zero => rfl
      | succ n => rw [List.replicate_succ, List.dropWhile_cons]; (first | done | rfl)
    unfold tokS
    rw [if_pos (by decide), ht, hd]
  unfold lexS
  simp only [lexF, h1, h2, lex_blanks n _ (show 0 < (97 :: List.replicate n (32 : UInt8)).length by simp)]
  simp
theorem flat_one_one (n : Nat) (x : Value) : (List.replicate n [x]).flatten = List.replicate n x := by
  induction n with
  | zero => rfl
  | succ n ih => rw [List.replicate_succ, List.flatten_cons, ih]; (first | done | rfl)
theorem big_x (x : Int) (W : PW) : CallsX Try.prog 4 ⟨[.int .i64 x]⟩ [] W fun v _ => v = .bool true := by
  refine pureX hmix Try.func4 r4 (by kernel_rfl) [.int .i64 x] rfl ?_
  refine call_v rfl (fun W' _ => within_x x 16381 16387 W') (fun W2 v W3 _ _ hv => ?_)
  obtain ⟨n, h1, h2, rfl⟩ : ∃ n : Nat, 16381 ≤ n ∧ n ≤ 16387 ∧ v = .int .i64 n := by
    refine ⟨(if x < 16381 then 16381 else if 16387 < x then 16387 else x).toNat, by split <;> (try split) <;> omega, by split <;> (try split) <;> omega, ?_⟩
    rw [hv]; congr 1; split <;> (try split) <;> omega
  have hmax : (20000 : Nat) ≤ maxLen := by decide
  refine ⟨⟨by omega, by omega, by omega, by omega⟩, fun b => ?_⟩
  refine ⟨Nat, fun i => [(4, .v (.int .i64 i))], fun _ => [], fun i => [⟨.slice (some ⟨b, 0, none⟩) n n, 5, 1, n, List.replicate i (.int .u8 32) ++ List.replicate (n - i) (.int .u8 0)⟩], fun i _ => i ≤ n, fun i => n - i, 0,
    all_sl ⟨rfl, trivial⟩, rfl, ole_eq ?_, Nat.zero_le _, loopOK (fun _ => ⟨⟨trivial, rfl⟩, trivial⟩) (fun _ => rfl) (fun _ => rfl), ?_⟩
  · show [_] = [_]
    simp
  intro i W4 l4 hi f
  refine ⟨rfl, br_split (fun h => ?_) (fun h => ?_)⟩
  · have hi2 : i < n := by omega
    refine ⟨⟨by omega, by omega⟩, _, rfl, ?_⟩
    refine ⟨0, _, _, _, _, i, rfl, rfl, ?_, rfl, ?_, ?_, rfl, rfl, _, (i64_in ((i : Int) + 1) ⟨by omega, by omega⟩).symm, i + 1, all_sl ⟨rfl, trivial⟩, rfl, ole_eq ?_, hi2, by dsimp only; omega⟩
    · show Addr.add _ _ = Addr.add _ _
      simp
    · intro u hu; rw [List.mem_singleton.1 hu]; (first | done | rfl)
    · show i + 1 ≤ _
      simp; omega
    · show [_] = [_]
      congr 2
      rw [List.take_left' (by simp), List.drop_append, List.drop_eq_nil_of_le (by simp), List.nil_append, List.length_replicate, List.drop_replicate, List.replicate_succ', show i + 1 - i = 1 by omega, show n - i - 1 = n - (i + 1) by omega]
  · have hin : i = n := by omega
    refine ⟨⟨by omega, by omega⟩, _, rfl, ?_⟩
    refine ⟨0, _, _, _, _, 0, rfl, rfl, rfl, rfl, ?_, ?_, rfl, ?_⟩
    · intro u hu; rw [List.mem_singleton.1 hu]; (first | done | rfl)
    · show 0 + 1 ≤ _
      simp; omega
    refine ⟨97 :: List.replicate (n - 1) 32, ?_, fun _ => .inl ⟨_, rfl, fun j u hj => .inr ⟨0, _, _, _, _, j, rfl, rfl, rfl, ?_⟩⟩, ?_⟩
    · simp; omega
    · show (List.take 0 _ ++ [.int .u8 97] ++ List.drop (0 + 1) _)[j]? = some u
      rw [← hj, hin]
      simp [byteV]
    refine call_v rfl (fun W' _ => lex_x (97 :: List.replicate (n - 1) 32) W') (fun W5 v W6 _ _ hv => ?_)
    have hle : (97 :: List.replicate (n - 1) (32 : UInt8)).length = n := by simp; omega
    obtain ⟨L, e, hL, hu⟩ : ∃ L e, (if 16384 < n then L = 0 ∧ e = 5 else L = 1 ∧ e = 0) ∧ ∃ A c, v = .tuple ⟨[.slice A L c, .int .i64 e]⟩ := by
      obtain ⟨u, rfl, hu⟩ := hv
      obtain ⟨A, c, rfl, _, _⟩ := hu.form
      refine ⟨_, _, ?_, A, c, rfl⟩
      unfold lexA
      rw [hle, lex_a]
      split <;> exact ⟨rfl, rfl⟩
    obtain ⟨A, c, rfl⟩ := hu
    refine ⟨_, rfl, _, rfl, rfl, rfl, ?_⟩
    by_cases hn : 16384 < n
    · rw [if_pos hn] at hL
      obtain ⟨rfl, rfl⟩ := hL
      refine br_bool (fun hb => ?_) (fun hb => ?_)
      · refine ⟨rfl, rfl, rfl, ?_⟩
        refine call_v rfl (fun W' _ => lexlives_x W') (fun W5 v W6 _ _ hv => ?_)
        subst hv
        exact ret_plain rfl fun _ _ => rfl
      · exfalso
        have : ¬ (n : Int) ≤ 16384 := by omega
        simp [this] at hb
    · rw [if_neg hn] at hL
      obtain ⟨rfl, rfl⟩ := hL
      refine br_bool (fun hb => ?_) (fun hb => ?_)
      · refine ⟨rfl, rfl, ?_⟩
        refine call_v rfl (fun W' _ => lexlives_x W') (fun W5 v W6 _ _ hv => ?_)
        subst hv
        exact ret_plain rfl fun _ _ => rfl
      · exfalso
        have : (n : Int) ≤ 16384 := by omega
        simp [this] at hb
end Go.Proofs.Ytcgbcbdgjhnlaaa

namespace Go.Proofs.Ytcgbcbdgjhnlaaa
open Go.RowKit

theorem lexA_ok {s : List UInt8} {l : List Tok} {e : Int} (h : lexA s = (l, e)) (he : e = 0) : lexS s = some l ∧ s.length ≤ 16384 := by
  subst he
  unfold lexA at h
  split at h
  · cases h
  · split at h
    · rename_i l' hl
      simp only [Prod.mk.injEq, and_true] at h
      subst h; exact ⟨hl, by omega⟩
    · cases h
theorem lexF_cnt : ∀ (n : Nat) (s : List UInt8) (l : List Tok), lexF n s = some l → l.length ≤ s.length ∧ ∀ x ∈ l, x.r ≤ s.length
  | 0, s, l, h => by simp [lexF] at h
  | n + 1, s, l, h => by
    simp only [lexF] at h
    have h0 := skipM_len false s
    split at h
    · simp only [Option.some.injEq] at h; subst h; exact ⟨Nat.zero_le _, fun x hx => by cases hx⟩
    · rename_i c r hc
      rw [hc] at h0; simp only [List.length_cons] at h0
      split at h
      · cases h
      · rename_i k t rest ht
        split at h
        · cases h
        · rename_i l' hl'
          simp only [Option.some.injEq] at h; subst h
          obtain ⟨h1, h2⟩ := lexF_cnt n rest l' hl'
          have h3 := tokS_len ht
          refine ⟨by simp only [List.length_cons]; omega, fun x hx => ?_⟩
          rcases List.mem_cons.1 hx with rfl | hx
          · simp only [List.length_cons]; omega
          · have := h2 x hx; omega
theorem eqTok : EqOK Try.prog 29 [29] := ⟨Try.eqGuardType29, fun s hs => by rw [List.mem_singleton.1 hs]; exact Try.stoodInHeld29⟩
theorem tokC_up {n m d : Nat} {x : Tok} (h : m = n + d) : tokC m (x.up d) = tokC n x := by
  subst h
  have e : ((n + d : Nat) : Int) - ((x.r + d : Nat) : Int) = n - x.r := by omega
  show [_, _, Value.int .i64 (((n + d : Nat) : Int) - ((x.r + d : Nat) : Int))] = _
  rw [e]; (first | done | rfl)
theorem addlen {x y : List UInt8} (hx : x.length ≤ 100000) (hy : y.length ≤ 100000) : (x.length : Int) + y.length ≤ 9223372036854775807 := by omega
set_option maxHeartbeats 2000000 in
theorem remarks_x (s0 m0 t0 : List UInt8) (W : PW) : CallsX Try.prog 3 ⟨[strV s0, strV m0, strV t0]⟩ [] W fun v _ => v = .bool true := by
  refine pureX hmix Try.func3 r3 (by kernel_rfl) [strV s0, strV m0, strV t0] rfl ?_
  refine call_v rfl (fun W' => fun _ => short_x s0 200 W') (fun W1 v W1' _ _ h => ?_)
  obtain ⟨s, hs, rfl⟩ : ∃ s, s.length ≤ 200 ∧ v = strV s := ⟨_, by simp; omega, h⟩
  refine call_v rfl (fun W' => fun _ => short_x m0 60 W') (fun W2 v W2' _ _ h => ?_)
  obtain ⟨m, hm, rfl⟩ : ∃ s, s.length ≤ 60 ∧ v = strV s := ⟨_, by simp; omega, h⟩
  refine call_v rfl (fun W' => fun _ => short_x t0 200 W') (fun W3 v W3' _ _ h => ?_)
  obtain ⟨t, ht, rfl⟩ : ∃ s, s.length ≤ 200 ∧ v = strV s := ⟨_, by simp; omega, h⟩
  obtain ⟨a, e, hA⟩ : ∃ a e, lexA s = (a, e) := ⟨_, _, rfl⟩
  obtain ⟨b, e', hB⟩ : ∃ a e, lexA t = (a, e) := ⟨_, _, rfl⟩
  refine call_v rfl (fun W' _ => lex_x s W') (fun W4 v W5 _ l5 hv => ?_)
  rw [hA] at hv
  dsimp only at hv
  obtain ⟨ua, rfl, hua⟩ := hv
  obtain ⟨Aa, ca, rfl, _, _⟩ := hua.form
  refine ⟨_, rfl, _, rfl, ?_⟩
  refine call_v rfl (fun W' _ => lex_x t W') (fun W6 v W7 l6 l7 hv => ?_)
  rw [hB] at hv
  dsimp only at hv
  obtain ⟨ub, rfl, hub⟩ := hv
  obtain ⟨Ab, cb, rfl, _, _⟩ := hub.form
  have hua := hua.mono (l6.trans l7)
  refine ⟨_, rfl, _, rfl, rfl, br_nsplit (fun he => ?_) (fun he => ?_)⟩
  · refine call_v rfl (fun W' _ => lexlives_x W') (fun W5 v W6 _ _ hv => ?_)
    subst hv
    exact ret_plain rfl fun _ _ => rfl
  refine ⟨rfl, br_nsplit (fun he' => ?_) (fun he' => ?_)⟩
  · refine call_v rfl (fun W' _ => lexlives_x W') (fun W5 v W6 _ _ hv => ?_)
    subst hv
    exact ret_plain rfl fun _ _ => rfl
  obtain ⟨ha, _⟩ := lexA_ok hA he
  obtain ⟨hb, _⟩ := lexA_ok hB he'
  obtain ⟨na, _⟩ := lexF_cnt _ _ _ ha
  obtain ⟨nb, nbr⟩ := lexF_cnt _ _ _ hb
  refine ⟨Nat, fun i => [(11, .v (.int .i64 i))], fun _ => [], fun _ => [], fun i _ => i ≤ m.length ∧ ∀ c ∈ m.take i, ¬ c.toNat = 10, fun i => m.length - i, 0,
    all_sl ⟨rfl, trivial⟩, rfl, ole_refl _, ⟨Nat.zero_le _, by simp⟩, loopOK (fun _ => ⟨⟨trivial, rfl⟩, trivial⟩) (fun _ => rfl) (fun _ => rfl), ?_⟩
  rintro i W8 l8 ⟨hi, hI⟩ f
  refine ⟨rfl, br_split (fun h => ?_) (fun h => ?_)⟩
  · have h : (i : Int) < m.length := h
    have hil : i < m.length := by omega
    have hbt : byteAt m (i : Int).toNat = (m[i]).toNat := byteAt_get (List.getElem?_eq_getElem hil)
    refine ⟨⟨by omega, h⟩, rfl, br_split (fun h10 => ?_) (fun h10 => ?_)⟩
    · refine call_v rfl (fun W' _ => lexlives_x W') (fun W5 v W6 _ _ hv => ?_)
      subst hv
      exact ret_plain rfl fun _ _ => rfl
    · have h10 : ¬ byteAt m (i : Int).toNat = 10 := h10
      rw [hbt] at h10
      refine ⟨rfl, _, (i64_in ((i : Int) + 1) ⟨by omega, by omega⟩).symm, i + 1, all_sl ⟨rfl, trivial⟩, rfl, ole_refl _, ⟨hil, fun c hc => ?_⟩, by dsimp only; omega⟩
      rw [List.take_add_one, List.getElem?_eq_getElem hil] at hc
      rcases List.mem_append.1 hc with hc | hc
      · exact hI c hc
      · simp at hc; subst hc; omega
  have h : ¬ (i : Int) < m.length := h
  rw [List.take_of_length_le (by omega)] at hI
  have l1 : (s ++ [10]).length = s.length + 1 := by simp
  have l2 : ((s ++ [10]) ++ [47, 47]).length = s.length + 3 := by simp
  have l3 : (((s ++ [10]) ++ [47, 47]) ++ m).length = s.length + m.length + 3 := by simp; omega
  have l4 : ((((s ++ [10]) ++ [47, 47]) ++ m) ++ [10]).length = s.length + m.length + 4 := by simp; omega
  refine ⟨addlen (x := s) (y := [10]) (by omega) (by decide), ?_⟩
  refine ⟨addlen (x := s ++ [10]) (y := [47, 47]) (by omega) (by decide), ?_⟩
  refine ⟨addlen (x := (s ++ [10]) ++ [47, 47]) (y := m) (by omega) (by omega), ?_⟩
  refine ⟨addlen (x := ((s ++ [10]) ++ [47, 47]) ++ m) (y := [10]) (by omega) (by decide), ?_⟩
  refine ⟨addlen (x := (((s ++ [10]) ++ [47, 47]) ++ m) ++ [10]) (y := t) (by omega) (by omega), ?_⟩
  have hall : ((((s ++ [10]) ++ [47, 47]) ++ m) ++ [10]) ++ t = s ++ 10 :: 47 :: 47 :: (m ++ 10 :: t) := by simp
  have hC : lexA (((((s ++ [10]) ++ [47, 47]) ++ m) ++ [10]) ++ t) = (a.map (Tok.up (m.length + t.length + 4)) ++ b, 0) := by
    rw [hall]; unfold lexA
    rw [if_neg (by simp; omega), lex_remarks ha hb hI]
  have hCl : (((((s ++ [10]) ++ [47, 47]) ++ m) ++ [10]) ++ t).length = s.length + (m.length + t.length + 4) := by simp; omega
  refine call_v rfl (fun W' _ => lex_x (((((s ++ [10]) ++ [47, 47]) ++ m) ++ [10]) ++ t) W') (fun W9 v W10 l9 l10 hv => ?_)
  rw [hC, hCl] at hv
  dsimp only at hv
  obtain ⟨uc, rfl, huc⟩ := hv
  obtain ⟨Ac, cc, rfl, _, _⟩ := huc.form
  have hua := hua.mono (l8.trans (l9.trans l10))
  have hub := hub.mono (l8.trans (l9.trans l10))
  have hlen : (a.map (Tok.up (m.length + t.length + 4)) ++ b).length = a.length + b.length := by simp
  refine ⟨_, rfl, _, rfl, rfl, ?_⟩
  refine ⟨rfl, _, (i64_in ((a.length : Int) + b.length) ⟨by omega, by omega⟩).symm, rfl, br_nsplit (fun hne => ?_) (fun hne => ?_)⟩
  · exact absurd (by show (((a.map (Tok.up (m.length + t.length + 4)) ++ b).length : Nat) : Int) = _; rw [hlen]; push_cast; (first | done | rfl)) hne
  refine ⟨Nat, fun i => [(15, .v (.int .i64 i))], fun _ => [], fun _ => [], fun i _ => i ≤ a.length + b.length, fun i => a.length + b.length - i, 0,
    all_sl ⟨rfl, trivial⟩, rfl, ole_refl _, Nat.zero_le _, loopOK (fun _ => ⟨⟨trivial, rfl⟩, trivial⟩) (fun _ => rfl) (fun _ => rfl), ?_⟩
  rintro i W11 l11 hi f2
  refine ⟨rfl, br_split (fun h => ?_) (fun h => ?_)⟩
  · have h : (i : Int) < (((a.map (Tok.up (m.length + t.length + 4)) ++ b).length : Nat) : Int) := h
    rw [hlen] at h
    obtain ⟨pc, rfl, xc, hxc, _, _, hrc⟩ := huc.at (sz := 3) (tokC_len _) l11 (j := i) ⟨by omega, by rw [hlen]; exact h⟩
    have hxc : (a.map (Tok.up (m.length + t.length + 4)) ++ b)[i]? = some xc := hxc
    have go : ∀ r, eqV 1 (.int .i64 r) (.int .i64 r) = some true := fun r => by simp [eqV]
    refine ⟨rfl, br_split (fun hia => ?_) (fun hia => ?_)⟩
    · have hia : (i : Int) < a.length := hia
      obtain ⟨pa, rfl, xa, hxa, _, _, hra⟩ := hua.at (sz := 3) (tokC_len _) l11 (j := i) ⟨by omega, by omega⟩
      have hxa : a[i]? = some xa := hxa
      rw [List.getElem?_append_left (by simp; omega), List.getElem?_map, hxa] at hxc
      simp only [Option.map_some, Option.some.injEq] at hxc
      subst hxc
      rw [tokC_up rfl] at hrc
      refine ⟨⟨by omega, hia⟩, pa, rfl, tokC s.length xa, rfl, hra.o, ?_⟩
      refine ⟨⟨by omega, by show (i : Int) < (((a.map (Tok.up (m.length + t.length + 4)) ++ b).length : Nat) : Int); rw [hlen]; exact h⟩, pc, rfl, tokC s.length xa, rfl, hrc.o, eqTok, br_bool (fun hb => ?_) (fun hb => ?_)⟩
      · exfalso; simp at hb
      · exact ⟨rfl, _, (i64_in ((i : Int) + 1) ⟨by omega, by omega⟩).symm, i + 1, all_sl ⟨rfl, trivial⟩, rfl, ole_refl _, by omega, by dsimp only; omega⟩
    · have hia : ¬ (i : Int) < a.length := hia
      obtain ⟨pb, rfl, xb, hxb, _, _, hrb⟩ := hub.at (sz := 3) (tokC_len _) l11 (j := (i : Int) - a.length) ⟨by omega, by omega⟩
      rw [show ((i : Int) - a.length).toNat = i - a.length by omega] at hxb
      rw [List.getElem?_append_right (by simp; omega), List.length_map, hxb] at hxc
      simp only [Option.some.injEq] at hxc
      subst hxc
      have hxr := nbr _ (List.mem_of_getElem? hxb)
      refine ⟨rfl, _, (i64_in ((i : Int) - a.length) ⟨by omega, by omega⟩).symm, ⟨by omega, by omega⟩, pb, rfl, tokC t.length xb, rfl, hrb.o, ?_⟩
      refine ⟨rfl, _, (i64_in ((t.length : Int) - xb.r + ((s ++ [10]).length : Nat)) ⟨by omega, by omega⟩).symm, rfl, _, (i64_in ((t.length : Int) - xb.r + ((s ++ [10]).length : Nat) + m.length) ⟨by omega, by omega⟩).symm, rfl, _, (i64_in ((t.length : Int) - xb.r + ((s ++ [10]).length : Nat) + m.length + 3) ⟨by omega, by omega⟩).symm, ?_⟩
      refine ⟨⟨by omega, by show (i : Int) < (((a.map (Tok.up (m.length + t.length + 4)) ++ b).length : Nat) : Int); rw [hlen]; exact h⟩, pc, rfl, tokC (s.length + (m.length + t.length + 4)) xb, rfl, hrc.o, eqTok, br_bool (fun hb => ?_) (fun hb => ?_)⟩
      · exfalso
        have : ((s.length + (m.length + t.length + 4) : Nat) : Int) - xb.r = (t.length : Int) - xb.r + ((s ++ [10]).length : Nat) + m.length + 3 := by omega
        simp at hb; omega
      · exact ⟨rfl, _, (i64_in ((i : Int) + 1) ⟨by omega, by omega⟩).symm, i + 1, all_sl ⟨rfl, trivial⟩, rfl, ole_refl _, by omega, by dsimp only; omega⟩
  · refine call_v rfl (fun W' _ => lexlives_x W') (fun W5 v W6 _ _ hv => ?_)
    subst hv
    exact ret_plain rfl fun _ _ => rfl
end Go.Proofs.Ytcgbcbdgjhnlaaa

namespace Go.Proofs.Ytcgbcbdgjhnlaaa
open Go.RowKit

theorem refletter_x : PredB 82 nameB := by
  intro c W
  refine pureX hmix Try.func82 r82 (by kernel_rfl) [.int .u8 c.toNat] rfl ?_
  refine ⟨rfl, ?_⟩
  repeat' first
    | refine ⟨rfl, ?_⟩
    | refine br_split (fun h => ?_) (fun h => ?_)
    | refine ret_plain rfl fun _ _ => ?_
  all_goals (congr 1; rw [Bool.eq_iff_iff]; simp only [nameB, Bool.or_eq_true, Bool.and_eq_true, decide_eq_true_eq, true_iff]; omega)
def signN (c : UInt8) (r : List UInt8) : Int := if (c :: r).take 2 = [45, 62] then 2 else if c ∈ signL then 1 else 0
theorem refsign_x (s : List UInt8) (hs : s.length ≤ 16384) (i : Nat) (c : UInt8) (r : List UInt8) (hc : s.drop i = c :: r) (W : PW) :
    CallsX Try.prog 83 ⟨[strV s, .int .i64 i]⟩ [] W fun v _ => v = .int .i64 (signN c r) := by
  obtain ⟨hg, hr, hlt⟩ := drop_get hc
  have hb : byteAt s (i : Int).toNat = c.toNat := byteAt_get hg
  have hlen : s.length = i + 1 + r.length := by have := congrArg List.length hr; simp at this; omega
  have w1 : IntKind.i64.wrap ((i : Int) + 1) = (i : Int) + 1 := i64_in _ ⟨by omega, by omega⟩
  refine pureX hmix Try.func83 r83 (by kernel_rfl) [strV s, .int .i64 i] rfl ?_
  have hb2 : ∀ d r', r = d :: r' → byteAt s ((i : Int) + 1).toNat = d.toNat := fun d r' e => by
    rw [show ((i : Int) + 1).toNat = i + 1 by omega]
    exact byteAt_get (drop_get (hr.trans e)).1
  refine ⟨rfl, _, w1.symm, rfl, br_split (fun h1 => ?p1) (fun h1 => ?q1)⟩
  case' p1 =>
    have h1 : (i : Int) + 1 < s.length := h1
    obtain ⟨d, r', hd⟩ : ∃ d r', r = d :: r' := by
      cases r with
      | nil => simp at hlen; omega
      | cons d r' => exact ⟨_, _, rfl⟩
    refine ⟨⟨by omega, show (i : Int) < s.length by omega⟩, rfl, br_split (fun h2 => ?p2) (fun h2 => ?q2)⟩
  case' p2 =>
    have h2 : byteAt s (i : Int).toNat = 45 := h2
    refine ⟨rfl, _, w1.symm, ⟨by omega, h1⟩, rfl, br_split (fun h3 => ?p3) (fun h3 => ?q3)⟩
  case p3 =>
    have h3 : byteAt s ((i : Int) + 1).toNat = 62 := h3
    rw [hb] at h2
    rw [hb2 d r' hd] at h3
    refine ret_plain rfl fun _ _ => ?_
    have e1 : c = 45 := UInt8.toNat_inj.1 (by show c.toNat = 45; omega)
    have e2 : d = 62 := UInt8.toNat_inj.1 (by show d.toNat = 62; omega)
    subst e1 e2 hd
    rfl
  case' q3 =>
    have hn : ¬ (c :: r).take 2 = [45, 62] := by
      have h3 : ¬ byteAt s ((i : Int) + 1).toNat = 62 := h3
      rw [hb2 d r' hd] at h3
      intro e
      rw [hd] at e
      simp only [List.take_succ_cons, List.take_zero, List.cons.injEq, and_true] at e
      rw [e.2] at h3; exact h3 rfl
  case' q2 =>
    have hn : ¬ (c :: r).take 2 = [45, 62] := by
      have h2 : ¬ byteAt s (i : Int).toNat = 45 := h2
      rw [hb] at h2
      intro e
      rw [hd] at e
      simp only [List.take_succ_cons, List.take_zero, List.cons.injEq, and_true] at e
      rw [e.1] at h2; exact h2 rfl
  case' q1 =>
    have hn : ¬ (c :: r).take 2 = [45, 62] := by
      have h1 : ¬ (i : Int) + 1 < s.length := h1
      intro e
      cases r with
      | nil => simp at e
      | cons d r' => simp only [List.length_cons] at hlen; omega
  all_goals
    have hS : signN c r = if c ∈ signL then 1 else 0 := if_neg hn
    refine ⟨Nat, fun j => [(6, .v (.int .i64 j))], fun _ => [], fun _ => [], fun j _ => j ≤ 12 ∧ c ∉ signL.take j, fun j => 12 - j, 0,
      all_sl ⟨rfl, trivial⟩, rfl, ole_refl _, ⟨Nat.zero_le _, by simp⟩, loopOK (fun _ => ⟨⟨trivial, rfl⟩, trivial⟩) (fun _ => rfl) (fun _ => rfl), ?_⟩
    rintro j W1 l1 ⟨hj, hI⟩ f
    refine ⟨rfl, br_split (fun h => ?_) (fun h => ?_)⟩
    · have h : (j : Int) < 12 := h
      have hj2 : j < 12 := by omega
      have hjl : j < signL.length := hj2
      have hbt : byteAt signL (j : Int).toNat = (signL[j]).toNat := byteAt_get (List.getElem?_eq_getElem hjl)
      refine ⟨⟨by omega, h⟩, ⟨by omega, show (i : Int) < s.length by omega⟩, rfl, br_split (fun he => ?_) (fun he => ?_)⟩
      · have he : byteAt signL (j : Int).toNat = byteAt s (i : Int).toNat := he
        rw [hb, hbt] at he
        refine ret_plain rfl fun _ _ => ?_
        have : c ∈ signL := by
          have e : signL[j] = c := UInt8.toNat_inj.1 (by omega)
          rw [← e]; exact List.getElem_mem hjl
        rw [hS, if_pos this]
      · have he : ¬ byteAt signL (j : Int).toNat = byteAt s (i : Int).toNat := he
        rw [hb, hbt] at he
        refine ⟨rfl, _, (i64_in ((j : Int) + 1) ⟨by omega, by omega⟩).symm, j + 1, all_sl ⟨rfl, trivial⟩, rfl, ole_refl _, ⟨hj2, fun hm => ?_⟩, by dsimp only; omega⟩
        rw [List.take_add_one, List.getElem?_eq_getElem hjl] at hm
        rcases List.mem_append.1 hm with hm | hm
        · exact hI hm
        · simp at hm; subst hm; omega
    · have h : ¬ (j : Int) < 12 := h
      refine ret_plain rfl fun _ _ => ?_
      have : j = 12 := by omega
      subst this
      rw [hS, if_neg (show ¬ c ∈ signL from hI)]
/-- Behind a remark's first signs. -/
theorem lexF_line {r : List UInt8} (h : r.take 2 = [47, 47]) (n : Nat) : lexF n r = lexF n (r.dropWhile lineB) := by
  have hb : r.dropWhile blankB = r := by
    cases r with
    | nil => rfl
    | cons c r =>
      have : c = 47 := by
        cases r with
        | nil => simp at h
        | cons d r => simp at h; exact h.1
      subst this; (first | done | rfl)
  have := skip_run r
  rw [hb, if_pos h] at this
  cases n with
  | zero => rfl
  | succ n => simp only [lexF, this]
theorem blank_of {c : UInt8} (h : (c.toNat : Int) = 32 ∨ (c.toNat : Int) = 9 ∨ (c.toNat : Int) = 10 ∨ (c.toNat : Int) = 13) : blankB c = true := by
  simp only [blankB, Bool.or_eq_true, decide_eq_true_eq]; omega
theorem blank_not {c : UInt8} (h1 : ¬ (c.toNat : Int) = 32) (h2 : ¬ (c.toNat : Int) = 9) (h3 : ¬ (c.toNat : Int) = 10) (h4 : ¬ (c.toNat : Int) = 13) : blankB c = false := by
  rw [Bool.eq_false_iff]
  simp only [blankB, ne_eq, Bool.or_eq_true, decide_eq_true_eq]; omega
theorem tw_step {p : UInt8 → Bool} {s : List UInt8} {k : Nat} (hk : k < s.length) (h : p s[k] = true) : k + ((s.drop k).takeWhile p).length = k + 1 + ((s.drop (k + 1)).takeWhile p).length := by
  rw [List.drop_eq_getElem_cons hk, List.takeWhile_cons, h]; simp; omega
theorem tw_stop {p : UInt8 → Bool} {s : List UInt8} {k : Nat} (hk : k < s.length) (h : p s[k] = false) : ((s.drop k).takeWhile p).length = 0 := by
  rw [List.drop_eq_getElem_cons hk, List.takeWhile_cons, h]; (first | done | rfl)
theorem tw_end {p : UInt8 → Bool} {s : List UInt8} {k : Nat} (hk : s.length ≤ k) : ((s.drop k).takeWhile p).length = 0 := by
  rw [List.drop_eq_nil_of_le hk]; (first | done | rfl)
/-- Where what is alike ends: the run, what is behind it. -/
theorem tw_done {p : UInt8 → Bool} {s : List UInt8} {i k : Nat} (h : i + ((s.drop i).takeWhile p).length = k + ((s.drop k).takeWhile p).length) (h0 : ((s.drop k).takeWhile p).length = 0) : (s.drop i).take (k - i) = (s.drop i).takeWhile p ∧ s.drop k = (s.drop i).dropWhile p := by
  have e : ((s.drop i).takeWhile p).length = k - i := by omega
  rw [← take_takeWhile, e, ← drop_takeWhile, e, List.drop_drop, show i + (k - i) = k by omega]
  exact ⟨rfl, rfl⟩
theorem signN_two {c : UInt8} {r : List UInt8} (h : signN c r = 2) : ∃ r', r = 62 :: r' ∧ c = 45 := by
  unfold signN at h
  split at h
  · rename_i hp
    cases r with
    | nil => simp at hp
    | cons d r => simp at hp; exact ⟨r, by rw [hp.2], hp.1⟩
  · split at h <;> omega
theorem signN_cases (c : UInt8) (r : List UInt8) : signN c r = 2 ∨ (¬ (c :: r).take 2 = [45, 62] ∧ (signN c r = 1 ∧ c ∈ signL ∨ signN c r = 0 ∧ ¬ c ∈ signL)) := by
  unfold signN
  split
  · exact .inl rfl
  · rename_i h
    refine .inr ⟨h, ?_⟩
    split
    · rename_i h1; exact .inl ⟨rfl, h1⟩
    · rename_i h1; exact .inr ⟨rfl, h1⟩
set_option maxRecDepth 20000 in
set_option maxHeartbeats 4000000 in
theorem reflex_x (s : List UInt8) (W : PW) : CallsX Try.prog 25 ⟨[strV s]⟩ [] W fun v W' => ∃ u, v = .tuple ⟨[u, .int .i64 (lexA s).2]⟩ ∧ RP (tokC s.length) W' u (lexA s).1 := by
  refine pureNX hmix Try.func25 r25 (by kernel_rfl) [nilO 143 3] rfl [strV s] rfl ?_
  refine ⟨rfl, br_split (fun h => ?_) (fun h => ?_)⟩
  · have h : (16384 : Int) < s.length := h
    refine ret_plain rfl fun W' _ => ⟨.slice none 0 0, ?_, ?_⟩
    · rw [lexA, if_pos (by omega)]
    · rw [lexA, if_pos (by omega)]; exact RP.nil _ _
  have h : ¬ (16384 : Int) < s.length := h
  have hs : s.length ≤ 16384 := by omega
  have hA : lexA s = match lexS s with | some l => (l, 0) | none => ([], 4) := by rw [lexA, if_neg (by omega)]; (first | done | rfl)
  refine ⟨Nat × Value × List Tok, fun t => [(4, .v t.2.1), (5, .v (.int .i64 t.1))], fun _ => [], fun t => [⟨t.2.1, 143, 3, t.2.2.length, (t.2.2.map (tokC s.length)).flatten⟩],
    fun t _ => t.1 ≤ s.length ∧ t.2.2.length ≤ t.1 ∧ (∃ A c, t.2.1 = .slice A t.2.2.length c) ∧ ∀ n, (s.drop t.1).length < n → lexS s = appT t.2.2 (lexF n (s.drop t.1)), fun t => s.length - t.1, (0, .slice none 0 0, []),
    all_sl ⟨rfl, rfl, trivial⟩, rfl, ole_refl _, ⟨Nat.zero_le _, Nat.le_refl _, ⟨none, 0, rfl⟩, fun n hn => ?_⟩, loopOK (fun _ => ⟨⟨trivial, rfl⟩, ⟨trivial, rfl⟩, trivial⟩) (fun _ => rfl) (fun _ => rfl), ?_⟩
  · show lexS s = appT [] (lexF n s)
    rw [lexF_more n (s.length + 1) s hn (Nat.lt_succ_self _)]
    unfold lexS
    cases lexF (s.length + 1) s <;> rfl
  rintro ⟨j, u, acc⟩ W1 l1 ⟨h1, h2, ⟨A, c0, hu⟩, h3⟩ f
  dsimp only at h1 h2 hu h3
  subst hu
  have h3' := h3 _ (Nat.lt_succ_self _)
  refine ⟨rfl, br_split (fun hq => ?_) (fun hq => ?_)⟩
  rotate_left
  · have hq : ¬ (j : Int) < s.length := hq
    rw [List.drop_eq_nil_of_le (by omega), lexF_nil _ (by simp)] at h3'
    have e : lexA s = (acc, 0) := by rw [hA, h3']; simp [appT]
    refine RetVC.freeze (fun _ hb => hb) (i := 0) rfl fun W3 _ hf => ret_plain rfl fun W4 l4 => ?_
    rw [e]
    exact ⟨_, rfl, hf.mono l4⟩
  have hq : (j : Int) < s.length := hq
  have hjl : j < s.length := by omega
  have hc : s.drop j = s[j] :: s.drop (j + 1) := List.drop_eq_getElem_cons hjl
  have hbt : byteAt s (j : Int).toNat = (s[j]).toNat := byteAt_get (List.getElem?_eq_getElem hjl)
  have hcj : s[j]? = some s[j] := List.getElem?_eq_getElem hjl
  generalize s[j] = c at hc hbt hcj
  rw [hc] at h3'
  have hrl : (s.drop (j + 1)).length + 1 = s.length - j := by simp; omega
  have hmax : (20000 : Nat) ≤ maxLen := by decide
  have w1 : IntKind.i64.wrap ((j : Int) + 1) = (j : Int) + 1 := i64_in _ ⟨by omega, by omega⟩
  -- behind a token
  have tok : ∀ (k' : Nat) (t : List UInt8) (m : Nat), blankB c = false → (¬ (c.toNat = 47 ∧ ∃ d r', s.drop (j + 1) = d :: r' ∧ d.toNat = 47)) → tokS c (s.drop (j + 1)) = some (k', t, s.drop m) → j < m → m ≤ s.length →
      ∀ n, (s.drop m).length < n → lexS s = appT (acc ++ [⟨k', t, s.length - j⟩]) (lexF n (s.drop m)) := by
    intro k' t m hb hnr ht hm hml n hn
    rw [h3', lexF_tok hb hnr, ht]
    dsimp only
    rw [lexF_more n (c :: s.drop (j + 1)).length (s.drop m) hn (by simp; omega), show (c :: s.drop (j + 1)).length = s.length - j by simp; omega]
    cases lexF (s.length - j) (s.drop m) <;> simp [appT]
  have bad : blankB c = false → (¬ (c.toNat = 47 ∧ ∃ d r', s.drop (j + 1) = d :: r' ∧ d.toNat = 47)) → tokS c (s.drop (j + 1)) = none → lexA s = ([], 4) := by
    intro hb hnr ht
    rw [lexF_tok hb hnr, ht] at h3'
    rw [hA, h3']; (first | done | rfl)
  refine ⟨⟨by omega, hq⟩, rfl, br_split (fun b1 => ?b1) (fun n1 => ?n1)⟩
  case' n1 => refine ⟨rfl, br_split (fun b2 => ?b2) (fun n2 => ?n2)⟩
  case' n2 => refine ⟨rfl, br_split (fun b3 => ?b3) (fun n3 => ?n3)⟩
  case' n3 => refine ⟨rfl, br_split (fun b4 => ?b4) (fun n4 => ?n4)⟩
  case' b1 =>
    have hbl : blankB c = true := by
      have b1 : byteAt s (j : Int).toNat = 32 := b1
      rw [hbt] at b1; exact blank_of (.inl b1)
  case' b2 =>
    have hbl : blankB c = true := by
      have b2 : byteAt s (j : Int).toNat = 9 := b2
      rw [hbt] at b2; exact blank_of (.inr (.inl b2))
  case' b3 =>
    have hbl : blankB c = true := by
      have b3 : byteAt s (j : Int).toNat = 10 := b3
      rw [hbt] at b3; exact blank_of (.inr (.inr (.inl b3)))
  case' b4 =>
    have hbl : blankB c = true := by
      have b4 : byteAt s (j : Int).toNat = 13 := b4
      rw [hbt] at b4; exact blank_of (.inr (.inr (.inr b4)))
  case' n4 =>
    have hnb : blankB c = false := by
      have n1 : ¬ byteAt s (j : Int).toNat = 32 := n1
      have n2 : ¬ byteAt s (j : Int).toNat = 9 := n2
      have n3 : ¬ byteAt s (j : Int).toNat = 10 := n3
      have n4 : ¬ byteAt s (j : Int).toNat = 13 := n4
      rw [hbt] at n1 n2 n3 n4
      exact blank_not n1 n2 n3 n4
  case b1 | b2 | b3 | b4 =>
    refine ⟨rfl, _, w1.symm, (j + 1, _, acc), all_sl ⟨rfl, rfl, trivial⟩, rfl, ole_refl _, ⟨hjl, by dsimp only; omega, ⟨A, c0, rfl⟩, fun n hn => ?_⟩, by dsimp only; omega⟩
    dsimp only at hn ⊢
    rw [h3', lexF_blank hbl, lexF_more _ n _ (by simp; omega) hn]
  clear n1 n2 n3 n4
  refine ⟨rfl, br_split (fun r1 => ?r1) (fun m1 => ?m1)⟩
  case' r1 => refine ⟨rfl, _, w1.symm, rfl, br_split (fun r2 => ?r2) (fun m2 => ?m2)⟩
  case' r2 =>
    have r2 : (j : Int) + 1 < s.length := r2
    refine ⟨rfl, _, w1.symm, ⟨by omega, r2⟩, rfl, br_split (fun r3 => ?r3) (fun m3 => ?m3)⟩
  case r3 =>
    have r1 : byteAt s (j : Int).toNat = 47 := r1
    have r3 : byteAt s ((j : Int) + 1).toNat = 47 := r3
    have hj2 : j + 1 < s.length := by omega
    have hd : s.drop (j + 1) = s[j + 1] :: s.drop (j + 1 + 1) := List.drop_eq_getElem_cons hj2
    rw [hbt] at r1
    rw [show ((j : Int) + 1).toNat = j + 1 by omega, byteAt_get (List.getElem?_eq_getElem hj2)] at r3
    have e1 : c = 47 := UInt8.toNat_inj.1 (by show c.toNat = 47; omega)
    have e2 : s[j + 1] = 47 := UInt8.toNat_inj.1 (by show s[j + 1].toNat = 47; omega)
    have hl : lexF ((s.drop j).length + 1) (s.drop j) = lexF ((s.drop j).length + 1) ((s.drop j).dropWhile lineB) := lexF_line (by rw [hc, hd, e1, e2]; (first | done | rfl)) _
    refine ⟨Nat, fun k => [(5, .v (.int .i64 k))], fun _ => [], fun _ => [⟨.slice A acc.length c0, 143, 3, acc.length, (acc.map (tokC s.length)).flatten⟩], fun k _ => j ≤ k ∧ k ≤ s.length ∧ j + ((s.drop j).takeWhile lineB).length = k + ((s.drop k).takeWhile lineB).length, fun k => s.length - k, j,
      all_sl ⟨rfl, trivial⟩, rfl, ole_refl _, ⟨Nat.le_refl _, h1, rfl⟩, loopOK (fun _ => ⟨⟨trivial, rfl⟩, trivial⟩) (fun _ => rfl) (fun _ => rfl), ?_⟩
    rintro k W2 l2 ⟨hk1, hk2, hk3⟩ f2
    have hjk : ((s.drop k).takeWhile lineB).length = 0 → j < k := by
      intro h0
      rcases Nat.lt_or_ge j k with h | h
      · exact h
      · have : k = j := by omega
        subst this
        rw [hc, List.takeWhile_cons, e1] at h0
        cases h0
    refine ⟨rfl, br_split (fun q1 => ?q1) (fun s1 => ?s1)⟩
    case' q1 =>
      have q1 : (k : Int) < s.length := q1
      have hkl : k < s.length := by omega
      have hkb : byteAt s (k : Int).toNat = (s[k]).toNat := byteAt_get (List.getElem?_eq_getElem hkl)
      refine ⟨⟨by omega, q1⟩, rfl, br_nsplit (fun q2 => ?q2) (fun s2 => ?s2)⟩
    case q2 =>
      have q2 : ¬ byteAt s (k : Int).toNat = 10 := q2
      rw [hkb] at q2
      refine ⟨rfl, _, (i64_in ((k : Int) + 1) ⟨by omega, by omega⟩).symm, k + 1, all_sl ⟨rfl, trivial⟩, rfl, ole_refl _, ⟨by omega, hkl, ?_⟩, by dsimp only; omega⟩
      rw [hk3]
      exact tw_step hkl (by simp only [lineB, Bool.not_eq_true', decide_eq_false_iff_not]; omega)
    case' s2 =>
      have h0 : ((s.drop k).takeWhile lineB).length = 0 := by
        have s2 : byteAt s (k : Int).toNat = 10 := s2
        rw [hkb] at s2
        exact tw_stop hkl (by simp only [lineB, Bool.not_eq_false', decide_eq_true_eq]; omega)
    case' s1 =>
      have h0 : ((s.drop k).takeWhile lineB).length = 0 := by
        have s1 : ¬ (k : Int) < s.length := s1
        exact tw_end (by omega)
    all_goals
      obtain ⟨_, hdw⟩ := tw_done hk3 h0
      have := hjk h0
      refine ⟨(k, _, acc), all_sl ⟨rfl, rfl, trivial⟩, rfl, ole_refl _, ⟨hk2, by dsimp only; omega, ⟨A, c0, rfl⟩, fun n hn => ?_⟩, by dsimp only; omega⟩
      dsimp only at hn ⊢
      rw [h3 _ (Nat.lt_succ_self _), hl, ← hdw, lexF_more _ n _ (by simp; omega) hn]
  case' m1 =>
    have hnr : ¬ (c.toNat = 47 ∧ ∃ d r', s.drop (j + 1) = d :: r' ∧ d.toNat = 47) := by
      have m1 : ¬ byteAt s (j : Int).toNat = 47 := m1
      rw [hbt] at m1
      rintro ⟨h, _⟩; omega
  case' m2 =>
    have hnr : ¬ (c.toNat = 47 ∧ ∃ d r', s.drop (j + 1) = d :: r' ∧ d.toNat = 47) := by
      have m2 : ¬ (j : Int) + 1 < s.length := m2
      rintro ⟨_, d, r', h, _⟩
      rw [List.drop_eq_nil_of_le (by omega)] at h; cases h
  case' m3 =>
    have hnr : ¬ (c.toNat = 47 ∧ ∃ d r', s.drop (j + 1) = d :: r' ∧ d.toNat = 47) := by
      have m3 : ¬ byteAt s ((j : Int) + 1).toNat = 47 := m3
      rw [show ((j : Int) + 1).toNat = j + 1 by omega] at m3
      rintro ⟨_, d, r', h, hd⟩
      rw [byteAt_get (drop_get h).1] at m3; omega
  case m1 | m2 | m3 =>
    refine call_v rfl (R := fun _ v _ => v = .bool (nameB c)) (fun W' _ => (congrArg (fun x => CallsX Try.prog 82 ⟨[.int .u8 x]⟩ [] W' fun v _ => v = .bool (nameB c)) hbt).mpr (refletter_x _ W')) (fun W2 v W3 _ _ hv => ?_)
    subst hv
    refine br_bool (fun hn => ?_) (fun hn => ?_)
    · refine ⟨Nat, fun k => [(5, .v (.int .i64 k))], fun _ => [], fun _ => [⟨.slice A acc.length c0, 143, 3, acc.length, (acc.map (tokC s.length)).flatten⟩], fun k _ => j ≤ k ∧ k ≤ s.length ∧ j + ((s.drop j).takeWhile nameB).length = k + ((s.drop k).takeWhile nameB).length, fun k => s.length - k, j,
        all_sl ⟨rfl, trivial⟩, rfl, ole_refl _, ⟨Nat.le_refl _, h1, rfl⟩, loopOK (fun _ => ⟨⟨trivial, rfl⟩, trivial⟩) (fun _ => rfl) (fun _ => rfl), ?_⟩
      rintro k W2 l2 ⟨hk1, hk2, hk3⟩ f2
      have hjk : ((s.drop k).takeWhile nameB).length = 0 → j < k := by
        intro h0
        rcases Nat.lt_or_ge j k with h | h
        · exact h
        · have : k = j := by omega
          subst this
          rw [hc, List.takeWhile_cons, hn] at h0
          cases h0
      refine ⟨rfl, br_split (fun q1 => ?_) (fun s1 => ?_)⟩
      rotate_left
      have h0 : ((s.drop k).takeWhile nameB).length = 0 := by
        have s1 : ¬ (k : Int) < s.length := s1
        exact tw_end (by omega)
      rotate_left
      have q1 : (k : Int) < s.length := q1
      have hkl : k < s.length := by omega
      have hkb : byteAt s (k : Int).toNat = (s[k]).toNat := byteAt_get (List.getElem?_eq_getElem hkl)
      refine ⟨⟨by omega, q1⟩, ?_⟩
      refine call_v rfl (R := fun _ v _ => v = .bool (nameB s[k])) (fun W' _ => (congrArg (fun x => CallsX Try.prog 82 ⟨[.int .u8 x]⟩ [] W' fun v _ => v = .bool (nameB s[k])) hkb).mpr (refletter_x _ W')) (fun W2 v W3 _ _ hv => ?_)
      subst hv
      refine br_bool (fun q2 => ?_) (fun s2 => ?_)
      rotate_left
      have h0 : ((s.drop k).takeWhile nameB).length = 0 := tw_stop hkl s2
      rotate_left 2
      · skip
        refine ⟨rfl, _, (i64_in ((k : Int) + 1) ⟨by omega, by omega⟩).symm, k + 1, all_sl ⟨rfl, trivial⟩, rfl, ole_refl _, ⟨by omega, hkl, ?_⟩, by dsimp only; omega⟩
        rw [hk3]
        exact tw_step hkl q2
      all_goals
        have hjk := hjk h0
        obtain ⟨htw, hdw⟩ := tw_done hk3 h0
        have ht : tokS c (s.drop (j + 1)) = some (1, (s.drop j).take (k - j), s.drop k) := by
          unfold tokS
          rw [if_pos hn, htw, hdw, hc, List.takeWhile_cons, List.dropWhile_cons, hn]; (first | done | rfl)
        refine ⟨⟨by omega, by omega, h2' hk2⟩, rfl, .inl fun b W5 _ hr => ⟨0, _, tokC s.length ⟨1, (s.drop j).take (k - j), s.length - j⟩, rfl, rfl, rfl, rfl, rfl, tokC_one _ _, fun _ => ⟨_, rfl, ?_⟩, ?_, ?_, rfl, @fun A' c' _ => ?_⟩⟩
        · have e : (s.length : Int) - ((s.length - j : Nat) : Int) = j := by omega
          unfold tokC; dsimp only; rw [e]; exact hr.o
        · show acc.length + 1 ≤ maxLen
          omega
        · show (acc.length + 1) * 32 ≤ 140737488355328; omega
        · refine ⟨(k, .slice A' (acc.length + 1) c', acc ++ [⟨1, (s.drop j).take (k - j), s.length - j⟩]), all_sl ⟨rfl, rfl, trivial⟩, rfl, ole_eq ?_, ⟨?_, ?_, ⟨A', c', by simp⟩, tok 1 _ k hnb hnr ht hjk hk2⟩, by dsimp only; omega⟩
          · show [_] = [_]
            simp
          · dsimp only; omega
          · simp; omega
    have hn' : ¬ nameB c = true := by rw [hn]; exact Bool.false_ne_true
    refine ⟨rfl, br_split (fun h34 => ?_) (fun h34 => ?_)⟩
    · have h34 : byteAt s (j : Int).toNat = 34 := h34
      rw [hbt] at h34
      have h34 : c.toNat = 34 := by omega
      refine ⟨rfl, _, w1.symm, ?_⟩
      refine ⟨Nat, fun k => [(5, .v (.int .i64 k))], fun _ => [], fun _ => [⟨.slice A acc.length c0, 143, 3, acc.length, (acc.map (tokC s.length)).flatten⟩], fun k _ => j + 1 ≤ k ∧ k ≤ s.length ∧ j + 1 + ((s.drop (j + 1)).takeWhile textB).length = k + ((s.drop k).takeWhile textB).length, fun k => s.length - k, j + 1,
        all_sl ⟨rfl, trivial⟩, rfl, ole_refl _, ⟨Nat.le_refl _, hjl, rfl⟩, loopOK (fun _ => ⟨⟨trivial, rfl⟩, trivial⟩) (fun _ => rfl) (fun _ => rfl), ?_⟩
      rintro k W2 l2 ⟨hk1, hk2, hk3⟩ f2
      refine ⟨rfl, br_split (fun q1 => ?_) (fun s1 => ?_)⟩
      rotate_left
      have h0 : ((s.drop k).takeWhile textB).length = 0 := by
        have s1 : ¬ (k : Int) < s.length := s1
        exact tw_end (by omega)
      rotate_left
      have q1 : (k : Int) < s.length := q1
      have hkl : k < s.length := by omega
      have hkb : byteAt s (k : Int).toNat = (s[k]).toNat := byteAt_get (List.getElem?_eq_getElem hkl)
      refine ⟨⟨by omega, q1⟩, rfl, ?_⟩
      apply br_split
      rotate_left
      intro s2
      have h0 : ((s.drop k).takeWhile textB).length = 0 := by
        have s2 : ¬ (32 : Int) ≤ byteAt s (k : Int).toNat := s2
        rw [hkb] at s2
        exact tw_stop hkl (by rw [Bool.eq_false_iff]; simp only [textB, ne_eq, Bool.and_eq_true, Bool.not_eq_true', decide_eq_false_iff_not, decide_eq_true_eq]; omega)
      rotate_left 2
      intro q2
      refine ⟨⟨by omega, q1⟩, rfl, ?_⟩
      apply br_split
      rotate_left
      intro s3
      have h0 : ((s.drop k).takeWhile textB).length = 0 := by
        have s3 : ¬ byteAt s (k : Int).toNat ≤ (126 : Int) := s3
        rw [hkb] at s3
        exact tw_stop hkl (by rw [Bool.eq_false_iff]; simp only [textB, ne_eq, Bool.and_eq_true, Bool.not_eq_true', decide_eq_false_iff_not, decide_eq_true_eq]; omega)
      rotate_left 3
      intro q3
      refine ⟨⟨by omega, q1⟩, rfl, ?_⟩
      apply br_nsplit
      rotate_left
      intro s4
      have h0 : ((s.drop k).takeWhile textB).length = 0 := by
        have s4 : byteAt s (k : Int).toNat = 34 := s4
        rw [hkb] at s4
        exact tw_stop hkl (by rw [Bool.eq_false_iff]; simp only [textB, ne_eq, Bool.and_eq_true, Bool.not_eq_true', decide_eq_false_iff_not, decide_eq_true_eq]; omega)
      rotate_left 4
      intro q4
      · skip
        have q2 : (32 : Int) ≤ byteAt s (k : Int).toNat := q2
        have q3 : byteAt s (k : Int).toNat ≤ (126 : Int) := q3
        have q4 : ¬ byteAt s (k : Int).toNat = 34 := q4
        rw [hkb] at q2 q3 q4
        refine ⟨rfl, _, (i64_in ((k : Int) + 1) ⟨by omega, by omega⟩).symm, k + 1, all_sl ⟨rfl, trivial⟩, rfl, ole_refl _, ⟨by omega, hkl, ?_⟩, by dsimp only; omega⟩
        rw [hk3]
        exact tw_step hkl (by simp only [textB, Bool.and_eq_true, Bool.not_eq_true', decide_eq_false_iff_not, decide_eq_true_eq]; omega)
      all_goals
        obtain ⟨htw, hdw⟩ := tw_done hk3 h0
        have hT : tokS c (s.drop (j + 1)) = match s.drop k with
          | d :: r' => if d.toNat = 34 then some (2, (s.drop (j + 1)).take (k - (j + 1)), r') else none
          | [] => none := by
          unfold tokS
          rw [if_neg hn', if_pos h34, htw, ← hdw]
          (first | done | rfl)
        refine ⟨rfl, br_split (fun e1 => ?_) (fun e1 => ?_)⟩
        · have e1 : (k : Int) = s.length := e1
          rw [List.drop_eq_nil_of_le (show s.length ≤ k by omega)] at hT
          have e := bad hnb hnr hT
          refine ret_plain rfl fun W' _ => ⟨.slice none 0 0, ?_, ?_⟩
          · rw [e]
          · rw [e]; exact RP.nil _ _
        have e1 : ¬ (k : Int) = s.length := e1
        have hkl' : k < s.length := by omega
        have hkb' : byteAt s (k : Int).toNat = (s[k]).toNat := byteAt_get (List.getElem?_eq_getElem hkl')
        rw [List.drop_eq_getElem_cons hkl'] at hT
        dsimp only at hT
        refine ⟨⟨by omega, show (k : Int) < s.length by omega⟩, rfl, br_nsplit (fun e2 => ?_) (fun e2 => ?_)⟩
        · have e2 : ¬ byteAt s (k : Int).toNat = 34 := e2
          rw [hkb'] at e2
          rw [if_neg (by omega)] at hT
          have e := bad hnb hnr hT
          refine ret_plain rfl fun W' _ => ⟨.slice none 0 0, ?_, ?_⟩
          · rw [e]
          · rw [e]; exact RP.nil _ _
        have e2 : byteAt s (k : Int).toNat = 34 := e2
        rw [hkb'] at e2
        rw [if_pos (by omega)] at hT
        refine ⟨rfl, _, (i64_in ((k : Int) + 1) ⟨by omega, by omega⟩).symm, rfl, _, w1.symm, rfl, _, (i64_in ((k : Int) + 1 - 1) ⟨by omega, by omega⟩).symm, ⟨by omega, by omega, by show (k : Int) + 1 - 1 ≤ s.length; omega⟩, rfl, .inl fun b W5 _ hr => ⟨0, _, tokC s.length ⟨2, (s.drop (j + 1)).take (k - (j + 1)), s.length - j⟩, rfl, rfl, rfl, rfl, rfl, tokC_one _ _, fun _ => ⟨_, rfl, ?_⟩, ?_, ?_, rfl, @fun A' c' _ => ?_⟩⟩
        · have e : (s.length : Int) - ((s.length - j : Nat) : Int) = j := by omega
          have e4 : (s.drop ((j : Int) + 1).toNat).take (((k : Int) + 1 - 1).toNat - ((j : Int) + 1).toNat) = (s.drop (j + 1)).take (k - (j + 1)) := by
            rw [show ((j : Int) + 1).toNat = j + 1 by omega, show ((k : Int) + 1 - 1).toNat = k by omega]
          unfold tokC; dsimp only; rw [e, ← e4]; exact hr.o
        · show acc.length + 1 ≤ maxLen
          omega
        · show (acc.length + 1) * 32 ≤ 140737488355328; omega
        · refine ⟨(k + 1, .slice A' (acc.length + 1) c', acc ++ [⟨2, (s.drop (j + 1)).take (k - (j + 1)), s.length - j⟩]), all_sl ⟨rfl, rfl, trivial⟩, rfl, ole_eq ?_, ⟨?_, ?_, ⟨A', c', by simp⟩, tok 2 _ (k + 1) hnb hnr hT (by omega) hkl'⟩, by dsimp only; omega⟩
          · show [_] = [_]
            simp
          · dsimp only; omega
          · simp; omega
    have h34 : ¬ byteAt s (j : Int).toNat = 34 := h34
    rw [hbt] at h34
    have h34 : ¬ c.toNat = 34 := by omega
    refine call_v rfl (fun W' _ => refsign_x s hs j c (s.drop (j + 1)) hc W') (fun W2 v W3 _ _ hv => ?_)
    have hsig := signN_cases c (s.drop (j + 1))
    obtain ⟨m, hm, rfl⟩ : ∃ m, signN c (s.drop (j + 1)) = m ∧ v = .int .i64 m := ⟨_, rfl, hv⟩
    rw [hm] at hsig
    refine ⟨rfl, br_split (fun e0 => ?_) (fun e0 => ?_)⟩
    · have e0 : m = 0 := e0
      have ht : tokS c (s.drop (j + 1)) = none := by
        rcases hsig with h | ⟨hp, h | h⟩
        · omega
        · omega
        · rw [tokS_sign hn' h34 hp, if_neg h.2]
      have e := bad hnb hnr ht
      refine ret_plain rfl fun W' _ => ⟨.slice none 0 0, ?_, ?_⟩
      · rw [e]
      · rw [e]; exact RP.nil _ _
    have e0 : ¬ m = 0 := e0
    obtain ⟨n, hn1, rfl, ht⟩ : ∃ n : Nat, (1 ≤ n ∧ j + n ≤ s.length) ∧ m = n ∧ tokS c (s.drop (j + 1)) = some (3, (s.drop j).take n, s.drop (j + n)) := by
      rcases hsig with h | ⟨hp, h | h⟩
      · obtain ⟨r', hr', rfl⟩ := signN_two (hm.trans h)
        have := congrArg List.length hr'
        simp at this
        refine ⟨2, ⟨by omega, by omega⟩, h, ?_⟩
        rw [hc, hr', (drop_get hr').2.1]; (first | done | rfl)
      · refine ⟨1, ⟨by omega, by omega⟩, h.1, ?_⟩
        rw [tokS_sign hn' h34 hp, if_pos h.2, hc]; (first | done | rfl)
      · exact absurd h.1 e0
    refine ⟨rfl, _, (i64_in ((j : Int) + n) ⟨by omega, by omega⟩).symm, ⟨by omega, by omega, by show (j : Int) + n ≤ s.length; omega⟩, rfl, .inl fun b W5 _ hr => ⟨0, _, tokC s.length ⟨3, (s.drop j).take n, s.length - j⟩, rfl, rfl, rfl, rfl, rfl, tokC_one _ _, fun _ => ⟨_, rfl, ?_⟩, ?_, ?_, rfl, @fun A' c' _ => ?_⟩⟩
    · have e : (s.length : Int) - ((s.length - j : Nat) : Int) = j := by omega
      have e4 : (s.drop j).take (((j : Int) + n).toNat - j) = (s.drop j).take n := by rw [show ((j : Int) + n).toNat - j = n by omega]
      unfold tokC; dsimp only; rw [e, ← e4]; exact hr.o
    · show acc.length + 1 ≤ maxLen
      omega
    · show (acc.length + 1) * 32 ≤ 140737488355328; omega
    · refine ⟨(j + n, .slice A' (acc.length + 1) c', acc ++ [⟨3, (s.drop j).take n, s.length - j⟩]), all_sl ⟨rfl, rfl, trivial⟩, rfl, ole_eq ?_, ⟨?_, ?_, ⟨A', c', by simp⟩, tok 3 _ (j + n) hnb hnr ht (by omega) hn1.2⟩, by dsimp only; omega⟩
      · show [_] = [_]
        simp
      · dsimp only; omega
      · simp; omega
end Go.Proofs.Ytcgbcbdgjhnlaaa
