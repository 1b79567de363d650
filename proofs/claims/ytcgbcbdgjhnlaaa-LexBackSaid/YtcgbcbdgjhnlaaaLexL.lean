/- What tokens a text has: the document's answer, and its laws. -/
namespace Go.Proofs.Ytcgbcbdgjhnlaaa

/-! ## The document's answer -/
def nameB (c : UInt8) : Bool := (decide (97 ≤ c.toNat) && decide (c.toNat ≤ 122)) || (decide (65 ≤ c.toNat) && decide (c.toNat ≤ 90)) || (decide (48 ≤ c.toNat) && decide (c.toNat ≤ 57)) || decide (c.toNat = 95)
def blankB (c : UInt8) : Bool := decide (c.toNat = 32) || decide (c.toNat = 9) || decide (c.toNat = 10) || decide (c.toNat = 13)
def textB (c : UInt8) : Bool := decide (32 ≤ c.toNat) && decide (c.toNat ≤ 126) && !decide (c.toNat = 34)
def signL : List UInt8 := [123, 125, 59, 58, 61, 124, 38, 45, 40, 41, 35, 44]
/-- What is neither blank nor remark; 'true': a remark is under way. -/
def skipM : Bool → List UInt8 → List UInt8
  | _, [] => []
  | true, c :: r => if c.toNat = 10 then skipM false r else skipM true r
  | false, c :: r => if blankB c then skipM false r else match r with
    | d :: r' => if c.toNat = 47 ∧ d.toNat = 47 then skipM true r' else c :: r
    | [] => [c]
/-- The token at a place: its kind, its text, what is behind. -/
def tokS (c : UInt8) (r : List UInt8) : Option (Nat × List UInt8 × List UInt8) :=
  if nameB c then some (1, c :: r.takeWhile nameB, r.dropWhile nameB)
  else if c.toNat = 34 then match r.dropWhile textB with
    | d :: r' => if d.toNat = 34 then some (2, r.takeWhile textB, r') else none
    | [] => none
  else match (if c.toNat = 45 then match r with | d :: r' => if d.toNat = 62 then some r' else none | [] => none else none) with
    | some r' => some (3, [45, 62], r')
    | none => if c ∈ signL then some (3, [c], r) else none
structure Tok where
  k : Nat
  t : List UInt8
  r : Nat
def lexF : Nat → List UInt8 → Option (List Tok)
  | 0, _ => none
  | n + 1, s => match skipM false s with
    | [] => some []
    | c :: r => match tokS c r with
      | none => none
      | some (k, t, rest) => match lexF n rest with
        | none => none
        | some l => some (⟨k, t, (c :: r).length⟩ :: l)
def lexS (s : List UInt8) : Option (List Tok) := lexF (s.length + 1) s

/-! ## It goes on, it ends -/
theorem skipM_len : ∀ (b : Bool) (s : List UInt8), (skipM b s).length ≤ s.length
  | _, [] => by simp [skipM]
  | true, c :: r => by
    simp only [skipM]; split
    · have := skipM_len false r; simp only [List.length_cons]; omega
    · have := skipM_len true r; simp only [List.length_cons]; omega
  | false, [c] => by
    simp only [skipM]; split <;> simp
  | false, c :: d :: r => by
    simp only [skipM]; split
    · have := skipM_len false (d :: r); simp only [List.length_cons] at *; omega
    · split
      · have := skipM_len true r; simp only [List.length_cons] at *; omega
      · simp
theorem dropWhile_len {α : Type} (p : α → Bool) : ∀ l : List α, (l.dropWhile p).length ≤ l.length
  | [] => by simp
  | a :: l => by
    have := dropWhile_len p l
    simp only [List.dropWhile_cons]; split <;> simp only [List.length_cons] <;> omega
theorem tokS_len {c : UInt8} {r rest t : List UInt8} {k : Nat} (h : tokS c r = some (k, t, rest)) : rest.length ≤ r.length := by
  unfold tokS at h
  split at h
  · simp only [Option.some.injEq, Prod.mk.injEq] at h
    rw [← h.2.2]; exact dropWhile_len _ _
  · split at h
    · split at h
      · rename_i d r' hr
        split at h
        · simp only [Option.some.injEq, Prod.mk.injEq] at h
          have := dropWhile_len textB r
          rw [hr] at this; simp only [List.length_cons] at this
          rw [← h.2.2]; omega
        · cases h
      · cases h
    · split at h
      · rename_i r' hr
        simp only [Option.some.injEq, Prod.mk.injEq] at h
        rw [← h.2.2]
        split at hr
        · split at hr
          · split at hr
            · simp only [Option.some.injEq] at hr; subst hr; simp
            · cases hr
          · cases hr
        · cases hr
      · split at h
        · simp only [Option.some.injEq, Prod.mk.injEq] at h
          rw [← h.2.2]; exact Nat.le_refl _
        · cases h
theorem lexF_more : ∀ (n m : Nat) (s : List UInt8), s.length < n → s.length < m → lexF n s = lexF m s
  | 0, _, s, h, _ => by omega
  | _, 0, s, _, h => by omega
  | n + 1, m + 1, s, h, h' => by
    simp only [lexF]
    have hl := skipM_len false s
    split
    · rfl
    · rename_i c r hs
      rw [hs] at hl; simp only [List.length_cons] at hl
      split
      · rfl
      · rename_i k t rest ht
        have := tokS_len ht
        rw [lexF_more n m rest (by omega) (by omega)]

/-! ## Texts that are joined -/
theorem takeWhile_stop {p : UInt8 → Bool} {x : UInt8} (hx : p x = false) (u : List UInt8) : ∀ l : List UInt8, (∀ c ∈ l, p c = true) → (l ++ x :: u).takeWhile p = l ∧ (l ++ x :: u).dropWhile p = x :: u
  | [], _ => by simp [hx]
  | a :: l, h => by
    have h1 := h a (List.mem_cons_self ..)
    have h2 := takeWhile_stop hx u l fun c hc => h c (List.mem_cons_of_mem _ hc)
    simp [h1, h2]
theorem takeWhile_end {p : UInt8 → Bool} : ∀ l : List UInt8, (∀ c ∈ l, p c = true) → l.takeWhile p = l ∧ l.dropWhile p = []
  | [], _ => by simp
  | a :: l, h => by
    have h1 := h a (List.mem_cons_self ..)
    have h2 := takeWhile_end l fun c hc => h c (List.mem_cons_of_mem _ hc)
    simp [h1, h2]
theorem takeWhile_app {p : UInt8 → Bool} {x : UInt8} (hx : p x = false) (u : List UInt8) : ∀ l : List UInt8, (l ++ x :: u).takeWhile p = l.takeWhile p ∧ (l ++ x :: u).dropWhile p = l.dropWhile p ++ x :: u
  | [] => by simp [hx]
  | a :: l => by
    have h2 := takeWhile_app hx u l
    simp only [List.cons_append, List.takeWhile_cons, List.dropWhile_cons]
    split <;> simp [h2]

theorem skip_blank {c : UInt8} (h : blankB c = true) (u : List UInt8) : skipM false (c :: u) = skipM false u := by
  cases u <;> simp [skipM, h]
theorem b10 : blankB 10 = true := by decide
theorem b32 : blankB 32 = true := by decide
theorem skipM_app (u : List UInt8) : ∀ (b : Bool) (s : List UInt8), skipM b (s ++ 10 :: u) = match skipM b s with | [] => skipM false u | c :: r => (c :: r) ++ 10 :: u
  | true, [] => by simp [skipM]
  | false, [] => by simp [skipM, skip_blank b10]
  | true, c :: r => by
    simp only [List.cons_append, skipM]
    split
    · exact skipM_app u false r
    · exact skipM_app u true r
  | false, [c] => by
    simp only [List.cons_append, List.nil_append, skipM]
    split
    · exact skip_blank b10 u
    · have : ¬ (c.toNat = 47 ∧ (10 : UInt8).toNat = 47) := fun h => by have := h.2; revert this; decide
      rw [if_neg this]; rfl
  | false, c :: d :: r => by
    simp only [List.cons_append, skipM]
    split
    · exact skipM_app u false (d :: r)
    · split
      · exact skipM_app u true r
      · rfl
theorem nb10 : nameB 10 = false := by decide
theorem tb10 : textB 10 = false := by decide
theorem tokS_app (u : List UInt8) {c : UInt8} {r rest t : List UInt8} {k : Nat} (h : tokS c r = some (k, t, rest)) : tokS c (r ++ 10 :: u) = some (k, t, rest ++ 10 :: u) := by
  obtain ⟨e1, e2⟩ := takeWhile_app nb10 u r
  obtain ⟨e3, e4⟩ := takeWhile_app tb10 u r
  unfold tokS at h ⊢
  rw [e1, e2, e3, e4]
  cases h1 : nameB c
  case true =>
    simp only [h1, if_true, Option.some.injEq, Prod.mk.injEq] at h ⊢
    obtain ⟨rfl, rfl, rfl⟩ := h; exact ⟨rfl, rfl, rfl⟩
  case false =>
    simp only [h1, Bool.false_eq_true, if_false] at h ⊢
    by_cases h2 : c.toNat = 34
    · simp only [h2, if_true] at h ⊢
      split at h
      · rename_i d r' hr
        rw [hr]
        split at h
        · rename_i hd
          simp only [Option.some.injEq, Prod.mk.injEq] at h
          obtain ⟨rfl, rfl, rfl⟩ := h
          simp [hd]
        · cases h
      · cases h
    · simp only [h2, if_false] at h ⊢
      by_cases h3 : c.toNat = 45
      · simp only [h3, if_true] at h ⊢
        cases r with
        | nil =>
          simp only at h
          split at h
          · simp only [Option.some.injEq, Prod.mk.injEq] at h
            obtain ⟨rfl, rfl, rfl⟩ := h
            rename_i hc
            simp [hc]
          · cases h
        | cons d r' =>
          simp only [List.cons_append] at h ⊢
          by_cases h4 : d.toNat = 62
          · simp only [h4, if_true, Option.some.injEq, Prod.mk.injEq] at h ⊢
            obtain ⟨rfl, rfl, rfl⟩ := h; exact ⟨rfl, rfl, rfl⟩
          · simp only [h4, if_false] at h ⊢
            split at h
            · rename_i hc
              simp only [Option.some.injEq, Prod.mk.injEq] at h
              obtain ⟨rfl, rfl, rfl⟩ := h
              simp [hc]
            · cases h
      · simp only [h3, if_false] at h ⊢
        split at h
        · rename_i hc
          simp only [Option.some.injEq, Prod.mk.injEq] at h
          obtain ⟨rfl, rfl, rfl⟩ := h
          simp [hc]
        · cases h
theorem tokS_sign {c : UInt8} {r : List UInt8} (h1 : ¬ nameB c = true) (h2 : ¬ c.toNat = 34) (h3 : ¬ (c :: r).take 2 = [45, 62]) : tokS c r = if c ∈ signL then some (3, [c], r) else none := by
  unfold tokS
  rw [if_neg h1, if_neg h2]
  by_cases h : c.toNat = 45
  · rw [if_pos h]
    cases r with
    | nil => rfl
    | cons d r =>
      have : ¬ d.toNat = 62 := fun hd => h3 (by rw [UInt8.toNat_inj.1 (show c.toNat = (45 : UInt8).toNat from h), UInt8.toNat_inj.1 (show d.toNat = (62 : UInt8).toNat from hd)]; rfl)
      simp only [this, if_false]
  · rw [if_neg h]
def Tok.up (n : Nat) (x : Tok) : Tok := ⟨x.k, x.t, x.r + n⟩
/-- A text, a line's end, another text. -/
theorem lexF_app (u : List UInt8) (v : List Tok) (m : Nat) (hm : u.length < m) (hv : lexF m u = some v) : ∀ (n : Nat) (s : List UInt8) (l : List Tok), lexF n s = some l → lexF (n + m) (s ++ 10 :: u) = some (l.map (Tok.up (u.length + 1)) ++ v)
  | 0, s, l, h => by simp [lexF] at h
  | n + 1, s, l, h => by
    rw [show n + 1 + m = (n + m) + 1 by omega]
    simp only [lexF] at h ⊢
    have ha := skipM_app u false s
    split at h
    · rename_i hs
      rw [hs] at ha
      simp only [Option.some.injEq] at h; subst h
      have hx : lexF (n + m + 1) u = some v := (lexF_more _ m u (by omega) hm).trans hv
      simp only [lexF] at hx
      rw [ha]
      simpa using hx
    · rename_i c r hs
      rw [hs] at ha
      split at h
      · cases h
      · rename_i k t rest ht
        split at h
        · cases h
        · rename_i l' hl'
          simp only [Option.some.injEq] at h; subst h
          have ht' := tokS_app u ht
          rw [ha]
          simp only [List.cons_append, ht']
          rw [lexF_app u v m hm hv n rest l' hl']
          simp [Tok.up]; omega
theorem skip_remark (t : List UInt8) : ∀ m : List UInt8, (∀ c ∈ m, ¬ c.toNat = 10) → skipM true (m ++ 10 :: t) = skipM false t
  | [], _ => by simp [skipM]
  | c :: m, h => by
    have h1 := h c (List.mem_cons_self ..)
    simp only [List.cons_append, skipM, h1, if_false]
    exact skip_remark t m fun c hc => h c (List.mem_cons_of_mem _ hc)
theorem lex_remarks {s m t : List UInt8} {a b : List Tok} (ha : lexS s = some a) (hb : lexS t = some b) (hm : ∀ c ∈ m, ¬ c.toNat = 10) :
    lexS (s ++ 10 :: 47 :: 47 :: (m ++ 10 :: t)) = some (a.map (Tok.up (m.length + t.length + 4)) ++ b) := by
  have h1 : lexF ((m ++ 10 :: t).length + 3) (47 :: 47 :: (m ++ 10 :: t)) = some b := by
    rw [← hb]
    unfold lexS
    rw [← lexF_more ((m ++ 10 :: t).length + 3) (t.length + 1) t (by simp; omega) (by omega)]
    simp only [lexF]
    have : skipM false (47 :: 47 :: (m ++ 10 :: t)) = skipM false t := by
      rw [← skip_remark t m hm]
      simp [skipM, blankB]
    rw [this]
  have h2 := lexF_app _ b _ (by simp) h1 _ s a ha
  unfold lexS
  rw [lexF_more _ (s.length + 1 + ((m ++ 10 :: t).length + 3)) _ (Nat.lt_succ_self _) (by simp), h2]
  rw [show (47 :: 47 :: (m ++ 10 :: t)).length + 1 = m.length + t.length + 4 by simp; omega]

def Tok.txt (x : Tok) : List UInt8 := if x.k = 2 then 34 :: (x.t ++ [34]) else x.t
def joinT : List Tok → List UInt8
  | [] => []
  | [x] => x.txt
  | x :: y :: l => x.txt ++ 32 :: joinT (y :: l)
/-- What a token is made of. -/
inductive OkT : Nat → List UInt8 → Prop where
  | name (c : UInt8) (l : List UInt8) : nameB c = true → (∀ d ∈ l, nameB d = true) → OkT 1 (c :: l)
  | text (l : List UInt8) : (∀ d ∈ l, textB d = true) → OkT 2 l
  | arrow : OkT 3 [45, 62]
  | sign (c : UInt8) : c ∈ signL → OkT 3 [c]
theorem mem_takeWhile {p : UInt8 → Bool} : ∀ {l : List UInt8} {c : UInt8}, c ∈ l.takeWhile p → p c = true
  | a :: l, c, h => by
    simp only [List.takeWhile_cons] at h
    split at h
    · rcases List.mem_cons.1 h with rfl | h
      · assumption
      · exact mem_takeWhile h
    · cases h
theorem tokS_ok {c : UInt8} {r rest t : List UInt8} {k : Nat} (h : tokS c r = some (k, t, rest)) : OkT k t := by
  unfold tokS at h
  split at h
  · rename_i hc
    simp only [Option.some.injEq, Prod.mk.injEq] at h
    obtain ⟨rfl, rfl, rfl⟩ := h
    exact .name c _ hc fun d hd => mem_takeWhile hd
  · split at h
    · split at h
      · split at h
        · simp only [Option.some.injEq, Prod.mk.injEq] at h
          obtain ⟨rfl, rfl, rfl⟩ := h
          exact .text _ fun d hd => mem_takeWhile hd
        · cases h
      · cases h
    · split at h
      · simp only [Option.some.injEq, Prod.mk.injEq] at h
        obtain ⟨rfl, rfl, rfl⟩ := h
        exact .arrow
      · split at h
        · simp only [Option.some.injEq, Prod.mk.injEq] at h
          obtain ⟨rfl, rfl, rfl⟩ := h
          exact .sign c (by assumption)
        · cases h
theorem lexF_ok : ∀ (n : Nat) (s : List UInt8) (l : List Tok), lexF n s = some l → ∀ x ∈ l, OkT x.k x.t
  | 0, s, l, h => by simp [lexF] at h
  | n + 1, s, l, h => by
    simp only [lexF] at h
    split at h
    · simp only [Option.some.injEq] at h; subst h; intro x hx; cases hx
    · split at h
      · cases h
      · rename_i k t rest ht
        split at h
        · cases h
        · rename_i l' hl'
          simp only [Option.some.injEq] at h; subst h
          intro x hx
          rcases List.mem_cons.1 hx with rfl | hx
          · exact tokS_ok ht
          · exact lexF_ok n rest l' hl' x hx
/-- What begins a token is no blank, no remark. -/
theorem okT_head {k : Nat} {t : List UInt8} (h : OkT k t) (r : Nat) : ∃ c l, Tok.txt ⟨k, t, r⟩ = c :: l ∧ blankB c = false ∧ ¬ c.toNat = 47 := by
  have hn : ∀ n : Nat, n < 256 → nameB (UInt8.ofNat n) = true → blankB (UInt8.ofNat n) = false ∧ ¬ (UInt8.ofNat n).toNat = 47 := by decide +kernel
  have hs : ∀ c ∈ signL, blankB c = false ∧ ¬ c.toNat = 47 := by decide
  cases h with
  | name c l h1 h2 =>
    have := hn c.toNat c.toNat_lt
    rw [UInt8.ofNat_toNat] at this
    exact ⟨c, l, rfl, this h1⟩
  | text l h1 => exact ⟨34, t ++ [34], rfl, by decide, by decide⟩
  | arrow => exact ⟨45, [62], rfl, by decide, by decide⟩
  | sign c h1 => exact ⟨c, [], rfl, hs c h1⟩
theorem nb32 : nameB 32 = false := by decide
/-- A token, a blank, whatever; or nothing. -/
theorem tokS_txt {k : Nat} {t : List UInt8} (h : OkT k t) (r : Nat) {c : UInt8} {l : List UInt8} (e : Tok.txt ⟨k, t, r⟩ = c :: l) : ∀ u : List UInt8, (u = [] ∨ ∃ v, u = 32 :: v) → tokS c (l ++ u) = some (k, t, u) := by
  have hn : ∀ n : Nat, n < 256 → ((UInt8.ofNat n) ∈ signL → nameB (UInt8.ofNat n) = false ∧ ¬ (UInt8.ofNat n).toNat = 34) := by decide +kernel
  intro u hu
  cases h with
  | name c' l' h1 h2 =>
    simp only [Tok.txt, show ¬ (1 = 2) by decide, if_false, List.cons.injEq] at e
    obtain ⟨rfl, rfl⟩ := e
    unfold tokS
    simp only [h1, if_true, Option.some.injEq, Prod.mk.injEq, true_and]
    rcases hu with rfl | ⟨v, rfl⟩
    · simp only [List.append_nil]; obtain ⟨e1, e2⟩ := takeWhile_end l' h2; rw [e1, e2]; exact ⟨rfl, rfl⟩
    · obtain ⟨e1, e2⟩ := takeWhile_stop nb32 v l' h2; rw [e1, e2]; exact ⟨rfl, rfl⟩
  | text l' h1 =>
    simp only [Tok.txt, if_true, List.cons.injEq] at e
    obtain ⟨rfl, rfl⟩ := e
    unfold tokS
    obtain ⟨e1, e2⟩ := takeWhile_stop (p := textB) (x := 34) (by decide) u t h1
    simp only [show nameB 34 = false by decide, Bool.false_eq_true, if_false, show (34 : UInt8).toNat = 34 by decide, if_true, List.append_assoc, List.singleton_append, e1, e2]
  | arrow =>
    simp only [Tok.txt, show ¬ (3 = 2) by decide, if_false, List.cons.injEq] at e
    obtain ⟨rfl, rfl⟩ := e
    rfl
  | sign c' h1 =>
    simp only [Tok.txt, show ¬ (3 = 2) by decide, if_false, List.cons.injEq] at e
    obtain ⟨rfl, rfl⟩ := e
    have h2 := hn c'.toNat c'.toNat_lt
    rw [UInt8.ofNat_toNat] at h2
    obtain ⟨h3, h4⟩ := h2 h1
    unfold tokS
    simp only [h3, Bool.false_eq_true, if_false, h4, List.nil_append, h1, if_true]
    have : (if c'.toNat = 45 then match u with | d :: r' => if d.toNat = 62 then some r' else none | [] => none else none) = none := by
      split
      · rcases hu with rfl | ⟨v, rfl⟩
        · rfl
        · rfl
      · rfl
    rw [this]
theorem skip_head {c : UInt8} {l : List UInt8} (h1 : blankB c = false) (h2 : ¬ c.toNat = 47) : skipM false (c :: l) = c :: l := by
  cases l with
  | nil => simp [skipM, h1]
  | cons d l => simp [skipM, h1, h2]
theorem lex_join : ∀ (l : List Tok), (∀ x ∈ l, OkT x.k x.t) → ∀ n, l.length < n → ∃ l', lexF n (joinT l) = some l' ∧ l'.map (fun x => (x.k, x.t)) = l.map (fun x => (x.k, x.t)) ∧ ∃ l'', lexF n (32 :: joinT l) = some l'' ∧ l''.map (fun x => (x.k, x.t)) = l.map (fun x => (x.k, x.t))
  | [], _, n, hn => by
    cases n with
    | zero => omega
    | succ n => exact ⟨[], rfl, rfl, [], rfl, rfl⟩
  | x :: l, h, n, hn => by
    cases n with
    | zero => omega
    | succ n =>
      obtain ⟨k, t, r⟩ := x
      have hx : OkT k t := h _ (List.mem_cons_self ..)
      obtain ⟨c, m, e, h1, h2⟩ := okT_head hx r
      obtain ⟨l1, a1, b1, l2, a2, b2⟩ := lex_join l (fun x hx => h x (List.mem_cons_of_mem _ hx)) n (by simp at hn; omega)
      have main : ∃ u, joinT (⟨k, t, r⟩ :: l) = c :: (m ++ u) ∧ (u = [] ∨ ∃ v, u = 32 :: v) ∧ ∃ l3, lexF n u = some l3 ∧ l3.map (fun x => (x.k, x.t)) = l.map (fun x => (x.k, x.t)) := by
        cases l with
        | nil => exact ⟨[], by simp [joinT, e], .inl rfl, l1, a1, b1⟩
        | cons y l => exact ⟨32 :: joinT (y :: l), by simp [joinT, e], .inr ⟨_, rfl⟩, l2, a2, b2⟩
      obtain ⟨u, e1, hu, l3, a3, b3⟩ := main
      have ht := tokS_txt hx r e u hu
      have hs : skipM false (joinT (⟨k, t, r⟩ :: l)) = c :: (m ++ u) := by rw [e1]; exact skip_head h1 h2
      have hs' : skipM false (32 :: joinT (⟨k, t, r⟩ :: l)) = c :: (m ++ u) := by
        rw [← hs]; exact skip_blank b32 _
      exact ⟨⟨k, t, (c :: (m ++ u)).length⟩ :: l3, by simp only [lexF, hs, ht, a3], by simp [b3], ⟨k, t, (c :: (m ++ u)).length⟩ :: l3, by simp only [lexF, hs', ht, a3], by simp [b3]⟩
theorem okT_pos {k : Nat} {t : List UInt8} (h : OkT k t) (r : Nat) : 0 < (Tok.txt ⟨k, t, r⟩).length := by
  obtain ⟨c, l, e, _⟩ := okT_head h r; rw [e]; simp
theorem join_len : ∀ (l : List Tok), (∀ x ∈ l, OkT x.k x.t) → l.length ≤ (joinT l).length
  | [], _ => by simp
  | [x], h => okT_pos (h x (List.mem_cons_self ..)) x.r
  | x :: y :: l, h => by
    have h1 := join_len (y :: l) fun x hx => h x (List.mem_cons_of_mem _ hx)
    simp only [joinT, List.length_append, List.length_cons] at *; omega
/-- Tokens that are joined are the same again, but for their places. -/
theorem lex_back {s : List UInt8} {l : List Tok} (h : lexS s = some l) : ∃ l', lexS (joinT l) = some l' ∧ l'.map (fun x => (x.k, x.t)) = l.map (fun x => (x.k, x.t)) := by
  have hok := lexF_ok _ _ _ h
  obtain ⟨l', a, b, _⟩ := lex_join l hok ((joinT l).length + 1) (by have := join_len l hok; omega)
  exact ⟨l', a, b⟩
end Go.Proofs.Ytcgbcbdgjhnlaaa
