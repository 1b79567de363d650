/- Which tokens texts have that are put together; the expression's text. -/
import Derived.Test.YtcgbcbdgjhnlaaaGrA
namespace Go.Proofs.Ytcgbcbdgjhnlaaa

/-- The tokens' kinds and texts. -/
def lexK (s : List UInt8) : Option (List KT) := (lexS s).map (List.map kt)
def consO (x : KT) (o : Option (List KT)) : Option (List KT) := o.map (x :: ·)
theorem lexS_step (s : List UInt8) : lexS s = match skipM false s with
    | [] => some []
    | c :: r => match tokS c r with
      | none => none
      | some (k, t, rest) => match lexS rest with
        | none => none
        | some l => some (⟨k, t, (c :: r).length⟩ :: l) := by
  have h0 := skipM_len false s
  cases hc : skipM false s with
  | nil =>
    show lexF (s.length + 1) s = _
    simp only [lexF, hc]
  | cons c r =>
    rw [hc] at h0; simp only [List.length_cons] at h0
    cases ht : tokS c r with
    | none =>
      show lexF (s.length + 1) s = _
      simp only [lexF, hc, ht]
    | some p =>
      obtain ⟨k, t, rest⟩ := p
      have := tokS_len ht
      dsimp only
      show lexF (s.length + 1) s = _
      simp only [lexF, hc, ht]
      rw [lexF_more s.length (rest.length + 1) rest (by omega) (by omega)]
      rfl
theorem lexK_nil : lexK [] = some [] := rfl
theorem lexK_tok {c : UInt8} {r rest t : List UInt8} {k : Nat} (hs : skipM false (c :: r) = c :: r) (ht : tokS c r = some (k, t, rest)) : lexK (c :: r) = consO (k, t) (lexK rest) := by
  unfold lexK consO
  rw [lexS_step (c :: r), hs]
  dsimp only
  rw [ht]
  dsimp only
  cases lexS rest <;> rfl
theorem lexK_blank {c : UInt8} (h : blankB c = true) (u : List UInt8) : lexK (c :: u) = lexK u := by
  unfold lexK
  rw [lexS_step (c :: u), lexS_step u, skip_blank h u]
theorem lexK_sp (u : List UInt8) : lexK (32 :: u) = lexK u := lexK_blank b32 u
theorem lexK_nl (u : List UInt8) : lexK (10 :: u) = lexK u := lexK_blank b10 u
/-- A name ends ahead of it. -/
def Sep (u : List UInt8) : Prop := ∀ c r, u = c :: r → nameB c = false
theorem Sep.nil : Sep [] := fun c r h => by cases h
theorem Sep.cons {c : UInt8} (h : nameB c = false) (u : List UInt8) : Sep (c :: u) := fun d r e => by cases e; exact h
theorem skip_keep {c : UInt8} (r : List UInt8) (h1 : blankB c = false) (h2 : ¬ c.toNat = 47) : skipM false (c :: r) = c :: r := by
  cases r with
  | nil => simp [skipM, h1]
  | cons d r => simp [skipM, h1, h2]
theorem name_nb {c : UInt8} (h : nameB c = true) : blankB c = false ∧ ¬ c.toNat = 47 := by
  simp only [nameB, Bool.or_eq_true, Bool.and_eq_true, decide_eq_true_eq] at h
  refine ⟨?_, by omega⟩
  simp only [blankB, Bool.or_eq_false_iff, decide_eq_false_iff_not]
  omega
theorem takeWhile_sep {u : List UInt8} (hu : Sep u) : ∀ l : List UInt8, (∀ c ∈ l, nameB c = true) → (l ++ u).takeWhile nameB = l ∧ (l ++ u).dropWhile nameB = u
  | [], _ => by
    cases u with
    | nil => exact ⟨rfl, rfl⟩
    | cons c r => simp [hu c r rfl]
  | a :: l, h => by
    have h1 := h a (List.mem_cons_self ..)
    have h2 := takeWhile_sep hu l fun c hc => h c (List.mem_cons_of_mem _ hc)
    simp [h1, h2]
theorem lexK_name {w u : List UInt8} (hw : ∀ c ∈ w, nameB c = true) (h0 : ¬ w = []) (hu : Sep u) : lexK (w ++ u) = consO (1, w) (lexK u) := by
  cases w with
  | nil => exact absurd rfl h0
  | cons c r =>
    have hc := hw c (List.mem_cons_self ..)
    obtain ⟨n1, n2⟩ := name_nb hc
    obtain ⟨t1, t2⟩ := takeWhile_sep hu r fun d hd => hw d (List.mem_cons_of_mem _ hd)
    refine lexK_tok (skip_keep _ n1 n2) ?_
    show tokS c (r ++ u) = _
    unfold tokS
    rw [if_pos hc, t1, t2]
theorem word_name {c : UInt8} (h : wordB c = true) : nameB c = true := by
  simp only [wordB, smallB, figB, Bool.or_eq_true, Bool.and_eq_true, decide_eq_true_eq] at h
  simp only [nameB, Bool.or_eq_true, Bool.and_eq_true, decide_eq_true_eq]
  omega
theorem wordS_names {w : List UInt8} (h : wordS w = true) : (∀ c ∈ w, nameB c = true) ∧ ¬ w = [] := by
  have h1 := wordS_all h
  unfold allS at h1
  simp only [Bool.and_eq_true, decide_eq_true_eq] at h1
  refine ⟨fun c hc => word_name (List.all_eq_true.1 h1.1 c hc), fun e => ?_⟩
  rw [e] at h1
  exact absurd h1.2.1 (by decide)
theorem lexK_word {w u : List UInt8} (hw : wordS w = true) (hu : Sep u) : lexK (w ++ u) = consO (1, w) (lexK u) :=
  lexK_name (wordS_names hw).1 (wordS_names hw).2 hu
/-- A sign of one byte. -/
def oneB (c : UInt8) : Bool := decide (c ∈ signL) && (!decide (c = 45) && (!nameB c && (!blankB c && (!decide (c.toNat = 47) && !decide (c.toNat = 34)))))
theorem lexK_sign {c : UInt8} (h : oneB c = true) (u : List UInt8) : lexK (c :: u) = consO (3, [c]) (lexK u) := by
  unfold oneB at h
  simp only [Bool.and_eq_true, decide_eq_true_eq, Bool.not_eq_true', decide_eq_false_iff_not] at h
  obtain ⟨h1, h2, h3, h4, h5, h6⟩ := h
  refine lexK_tok (skip_keep _ h4 h5) ?_
  rw [tokS_sign (by rw [h3]; exact Bool.false_ne_true) h6 (fun e => h2 (by simp only [List.take_succ_cons, List.cons.injEq] at e; exact e.1)), if_pos h1]
theorem lexK_minus (u : List UInt8) : lexK (45 :: 32 :: u) = consO (3, [45]) (lexK (32 :: u)) := by
  refine lexK_tok (skip_keep _ (by decide) (by decide)) ?_
  rw [tokS_sign (by decide) (by decide) (by simp)]; rfl
theorem lexK_arrow (u : List UInt8) : lexK (45 :: 62 :: u) = consO (3, [45, 62]) (lexK u) := by
  refine lexK_tok (skip_keep _ (by decide) (by decide)) ?_
  rfl
theorem lexK_text {t : List UInt8} (ht : ∀ c ∈ t, textB c = true) (u : List UInt8) : lexK (34 :: (t ++ 34 :: u)) = consO (2, t) (lexK u) := by
  obtain ⟨t1, t2⟩ := takeWhile_stop (p := textB) (x := 34) (by decide) u t ht
  refine lexK_tok (skip_keep _ (by decide) (by decide)) ?_
  unfold tokS
  rw [if_neg (by decide), if_pos (by decide), t1, t2]; rfl
/-- The tokens ahead of others. -/
def preO (l : List KT) (o : Option (List KT)) : Option (List KT) := o.map (l ++ ·)
theorem preO_nil (o : Option (List KT)) : preO [] o = o := by cases o <;> rfl
theorem preO_cons (x : KT) (l : List KT) (o : Option (List KT)) : consO x (preO l o) = preO (x :: l) o := by cases o <;> rfl
theorem preO_one (x : KT) (o : Option (List KT)) : consO x o = preO [x] o := by cases o <;> rfl
theorem preO_app (a b : List KT) (o : Option (List KT)) : preO a (preO b o) = preO (a ++ b) o := by cases o <;> simp [preO]
/-- A text that is these tokens, whatever comes behind it (but for a name). -/
def LX (s : List UInt8) (l : List KT) : Prop := ∀ u, Sep u → lexK (s ++ u) = preO l (lexK u)
theorem LX.word {w : List UInt8} (hw : wordS w = true) : LX w [(1, w)] := fun u hu => by rw [lexK_word hw hu, preO_one]
theorem LX.name {w : List UInt8} (hw : ∀ c ∈ w, nameB c = true) (h0 : ¬ w = []) : LX w [(1, w)] := fun u hu => by rw [lexK_name hw h0 hu, preO_one]
theorem LX.nil : LX [] [] := fun u _ => by rw [preO_nil]; rfl
/-- One behind the other: the second one begins with no name. -/
theorem LX.app {s t : List UInt8} {a b : List KT} (h1 : LX s a) (h2 : LX t b) (ht : ∀ u, Sep u → Sep (t ++ u)) : LX (s ++ t) (a ++ b) := fun u hu => by
  rw [List.append_assoc, h1 _ (ht u hu), h2 u hu, preO_app]
/-- Of which nothing need be known behind. -/
def LY (s : List UInt8) (l : List KT) : Prop := ∀ u, lexK (s ++ u) = preO l (lexK u)
theorem LY.x {s : List UInt8} {l : List KT} (h : LY s l) : LX s l := fun u _ => h u
theorem LY.nil : LY [] [] := fun u => by rw [preO_nil]; rfl
theorem LY.sign {c : UInt8} (h : oneB c = true) : LY [c] [(3, [c])] := fun u => by rw [List.cons_append, List.nil_append, lexK_sign h, preO_one]
theorem LY.sp : LY [32] [] := fun u => by rw [List.cons_append, List.nil_append, lexK_sp, preO_nil]
theorem LY.nl : LY [10] [] := fun u => by rw [List.cons_append, List.nil_append, lexK_nl, preO_nil]
theorem LY.arrow : LY [45, 62] [(3, [45, 62])] := fun u => by rw [List.cons_append, List.cons_append, List.nil_append, lexK_arrow, preO_one]
theorem LY.minus : LY [45, 32] [(3, [45])] := fun u => by rw [List.cons_append, List.cons_append, List.nil_append, lexK_minus, lexK_sp, preO_one]
theorem LY.text {t : List UInt8} (ht : ∀ c ∈ t, textB c = true) : LY (34 :: (t ++ [34])) [(2, t)] := fun u => by
  rw [List.cons_append, List.append_assoc, List.cons_append, List.nil_append, lexK_text ht, preO_one]
theorem LY.app {s t : List UInt8} {a b : List KT} (h1 : LY s a) (h2 : LY t b) : LY (s ++ t) (a ++ b) := fun u => by
  rw [List.append_assoc, h1, h2, preO_app]
/-- A name, and what begins with none. -/
theorem LX.y {s t : List UInt8} {a b : List KT} (h1 : LX s a) (h2 : LY t b) (ht : ∀ u, Sep (t ++ u)) : LY (s ++ t) (a ++ b) := fun u => by
  rw [List.append_assoc, h1 _ (ht u), h2 u, preO_app]
theorem LY.thenX {s t : List UInt8} {a b : List KT} (h1 : LY s a) (h2 : LX t b) : LX (s ++ t) (a ++ b) := fun u hu => by
  rw [List.append_assoc, h1, h2 u hu, preO_app]
theorem LX.whole {s : List UInt8} {l : List KT} (h : LX s l) : lexK s = some l := by
  have := h [] Sep.nil
  rw [List.append_nil, lexK_nil] at this
  rw [this]; simp [preO]
theorem LY.whole {s : List UInt8} {l : List KT} (h : LY s l) : lexK s = some l := h.x.whole
theorem sep_of {c : UInt8} {r : List UInt8} (h : nameB c = false) : ∀ u, Sep (c :: r ++ u) := fun u => Sep.cons h (r ++ u)
/-- Words of the language, one behind the other: such a word, a blank. -/
theorem LY.wordSp {w : List UInt8} (hw : ∀ c ∈ w, nameB c = true) (h0 : ¬ w = []) : LY (w ++ [32]) [(1, w)] :=
  LX.y (LX.name hw h0) LY.sp (sep_of (by decide))
theorem lexK_some {s : List UInt8} {l : List KT} (h : lexK s = some l) : ∃ toks, lexS s = some toks ∧ toks.map kt = l := by
  unfold lexK at h
  cases hs : lexS s with
  | none => rw [hs] at h; cases h
  | some toks => rw [hs] at h; simp at h; exact ⟨toks, rfl, h⟩
end Go.Proofs.Ytcgbcbdgjhnlaaa
