/- Layer 17 (show), plain: an expression's text, and that it is read as its nodes. -/
import Derived.Test.YtcgbcbdgjhnlaaaGrC
namespace Go.Proofs.Ytcgbcbdgjhnlaaa

def bindK (k : Int) : Int := if k = 4 ∨ k = 6 then 1 else if k = 5 then 2 else 3
def signK (k : Int) : List UInt8 := if k = 4 then [32, 124, 32] else if k = 6 then [32, 45, 32] else [32, 38, 32]
def Tr.kind : Tr → Int
  | .this => 1
  | .rel _ => 2
  | .arrow _ _ => 3
  | .op k _ _ => k
def opd (least : Int) (t : Tr) (s : List UInt8) : List UInt8 := if bindK t.kind < least then [40] ++ s ++ [41] else s
def txtT : Tr → List UInt8
  | .this => kThis
  | .rel w => w
  | .arrow w v => w ++ [45, 62] ++ v
  | .op k a b => opd (bindK k) a (txtT a) ++ signK k ++ opd (bindK k + 1) b (txtT b)
def signT (k : Int) : KT := if k = 4 then (3, [124]) else if k = 6 then (3, [45]) else (3, [38])
def opdT (least : Int) (t : Tr) (l : List KT) : List KT := if bindK t.kind < least then (3, [40]) :: (l ++ [(3, [41])]) else l
def tokT : Tr → List KT
  | .this => [(1, kThis)]
  | .rel w => [(1, w)]
  | .arrow w v => [(1, w), (3, [45, 62]), (1, v)]
  | .op k a b => opdT (bindK k) a (tokT a) ++ signT k :: opdT (bindK k + 1) b (tokT b)
theorem ly_signK {k : Int} (hk : k = 4 ∨ k = 5 ∨ k = 6) : LY (signK k) [signT k] := by
  rcases hk with rfl | rfl | rfl
  · exact LY.app LY.sp (LY.app (LY.sign (c := 124) (by decide)) LY.sp)
  · exact LY.app LY.sp (LY.app (LY.sign (c := 38) (by decide)) LY.sp)
  · exact LY.app LY.sp LY.minus
theorem sep_signK (k : Int) (u : List UInt8) : Sep (signK k ++ u) := by
  unfold signK
  split
  · exact sep_of (by decide) u
  · split
    · exact sep_of (by decide) u
    · exact sep_of (by decide) u
theorem lx_opd {least : Int} {t : Tr} {s : List UInt8} {l : List KT} (h : LX s l) : LX (opd least t s) (opdT least t l) := by
  unfold opd opdT
  split
  · have := LY.thenX (LY.sign (c := 40) (by decide)) (LX.y h (LY.sign (c := 41) (by decide)) (sep_of (by decide))).x
    rw [← List.append_assoc] at this
    exact this
  · exact h
theorem lx_txt : ∀ t : Tr, t.ok → LX (txtT t) (tokT t)
  | .this, _ => LX.name (by decide) (by decide)
  | .rel w, h => LX.word h
  | .arrow w v, h => by
    obtain ⟨h1, h2⟩ : wordS w = true ∧ wordS v = true := h
    have := LX.app (LX.word h1) (LY.thenX LY.arrow (LX.word h2)) (fun u _ => sep_of (by decide) u)
    rw [← List.append_assoc] at this
    exact this
  | .op k a b, h => by
    obtain ⟨hk, ha, hb⟩ := h
    have := LX.app (lx_opd (least := bindK k) (t := a) (lx_txt a ha)) (LY.thenX (ly_signK (k := k) (by omega)) (lx_opd (least := bindK k + 1) (t := b) (lx_txt b hb))) (fun u _ => by rw [List.append_assoc]; exact sep_signK k _)
    rw [← List.append_assoc] at this
    exact this
theorem bindK_le (k : Int) : 1 ≤ bindK k ∧ bindK k ≤ 3 := by
  unfold bindK
  split
  · decide
  · split <;> decide
theorem gr_up {l m : Nat} {ts : List KT} {t : Tr} (h : Gr l ts t) (h1 : l ≤ m) (h2 : m ≤ 2) : Gr m ts t := by
  match l, m with
  | 0, 0 => exact h
  | 0, 1 => exact .fac _ _ h
  | 0, 2 => exact .term _ _ (.fac _ _ h)
  | 1, 1 => exact h
  | 1, 2 => exact .term _ _ h
  | 2, 2 => exact h
  | 1, 0 => omega
  | 2, 0 => omega
  | 2, 1 => omega
  | l + 3, m => omega
  | l, m + 3 => omega
/-- How an operand is read: where it binds enough, as it is; else in parentheses. -/
theorem gr_opd {t : Tr} {ts : List KT} {least : Int} {m : Nat} (hm : m ≤ 2) (h : Gr (3 - (bindK t.kind).toNat) ts t) (_ : 3 - least.toNat ≤ m) (h0 : 1 ≤ least) (h3 : 3 - least.toNat = m) : Gr m (opdT least t ts) t := by
  have hb := bindK_le t.kind
  unfold opdT
  split
  · rename_i hlt
    have : Gr 2 ts t := gr_up h (by omega) (by decide)
    exact gr_up (.par _ _ this) (Nat.zero_le _) hm
  · rename_i hge
    exact gr_up h (by omega) hm
theorem gr_txt : ∀ t : Tr, t.ok → Gr (3 - (bindK t.kind).toNat) (tokT t) t
  | .this, _ => .this
  | .rel w, h => .rel w h
  | .arrow w v, h => .arrow w v h.1 h.2
  | .op k a b, h => by
    obtain ⟨hk, ha, hb⟩ := h
    have ga := gr_txt a ha
    have gb := gr_txt b hb
    rcases hk with rfl | rfl | rfl
    · exact .or _ _ a b (gr_opd (least := 1) (by decide) ga (by decide) (by decide) rfl) (gr_opd (least := 2) (by decide) gb (by decide) (by decide) rfl)
    · exact .and _ _ a b (gr_opd (least := 2) (by decide) ga (by decide) (by decide) rfl) (gr_opd (least := 3) (by decide) gb (by decide) (by decide) rfl)
    · exact .but _ _ a b (gr_opd (least := 1) (by decide) ga (by decide) (by decide) rfl) (gr_opd (least := 2) (by decide) gb (by decide) (by decide) rfl)
theorem gr2_txt {t : Tr} (h : t.ok) : Gr 2 (tokT t) t := gr_up (gr_txt t h) (by have := bindK_le t.kind; omega) (by decide)
theorem wordS_len {w : List UInt8} (h : wordS w = true) : w.length ≤ 32 := by
  have h1 := wordS_all h
  unfold allS at h1
  simp only [Bool.and_eq_true, decide_eq_true_eq] at h1
  exact h1.2.2
theorem opd_len (least : Int) (t : Tr) (s : List UInt8) : (opd least t s).length ≤ s.length + 2 := by
  unfold opd
  split
  · simp only [List.length_append, List.length_cons, List.length_nil]; omega
  · omega
theorem signK_len (k : Int) : (signK k).length = 3 := by
  unfold signK
  split
  · rfl
  · split <;> rfl
theorem txtT_len : ∀ t : Tr, t.ok → (txtT t).length ≤ 70 * t.size
  | .this, _ => by simp [txtT, kThis, Tr.size]
  | .rel w, h => by
    have := wordS_len (show wordS w = true from h)
    show w.length ≤ 70; omega
  | .arrow w v, h => by
    have h1 := wordS_len (show wordS w = true from h.1)
    have h2 := wordS_len (show wordS v = true from h.2)
    show (w ++ [45, 62] ++ v).length ≤ 70
    simp only [List.length_append, List.length_cons, List.length_nil]; omega
  | .op k a b, h => by
    have h1 := txtT_len a h.2.1
    have h2 := txtT_len b h.2.2
    have h3 := opd_len (bindK k) a (txtT a)
    have h4 := opd_len (bindK k + 1) b (txtT b)
    show (opd (bindK k) a (txtT a) ++ signK k ++ opd (bindK k + 1) b (txtT b)).length ≤ 70 * (a.size + b.size + 1)
    simp only [List.length_append, signK_len]; omega
/-- An expression's text is read as its nodes. -/
theorem show_rule {x y : List UInt8} (hx : wordS x = true) (hy : wordS y = true) {t : Tr} (h : t.ok) (hs : t.size ≤ 64) (hd : t.dep ≤ 16) :
    ruleP (textOf x y (txtT t)) = (noConf, 5) ∨ ruleP (textOf x y (txtT t)) = (⟨[⟨x, [⟨y, [], layN 0 t⟩]⟩], []⟩, 0) := by
  obtain ⟨p, hp⟩ := gr_bal (gr2_txt h)
  have h1 := txtT_len t h
  have h2 := wordS_len hx
  have h3 := wordS_len hy
  have := one_rule hx hy (lx_txt t h) (gr2_txt h) h hp (by simp only [textOf, List.length_append, List.length_cons, List.length_nil, kNamespace, kRelation]; omega)
  by_cases hp16 : 16 < p
  · rw [if_pos hp16] at this; exact .inl this
  · rw [if_neg hp16, if_pos ⟨hs, hd⟩] at this; exact .inr this
end Go.Proofs.Ytcgbcbdgjhnlaaa
