/- Texts of this proof, one behind the other: JsR JsS JsT JsV. No statement of the seat is proved here. -/
import Derived.Test.YtkhgmmejgikgnaaDoorGK
import Derived.Lib.ValidLaws
import Derived.Lib.ParseIntBCases
import Derived.Test.YtkhgmmejgikgnaaDoorGC

/- Texts in UTF-8, plain: characters one behind the other; joined, cut at a sign below 128. No program here. -/
namespace Go.Proofs.YtkhgmmejgikgnaaDoor
open Go.RowKit

/-- The bytes of one character. -/
inductive Ch : List UInt8 → Prop where
  | one (a : UInt8) (h : a.toNat < 128) : Ch [a]
  | two (a b : UInt8) (h1 : a.toNat / 32 = 6) (h2 : b.toNat / 64 = 2) (hv : a.toNat % 32 * 64 + b.toNat % 64 ≥ 128) : Ch [a, b]
  | three (a b c : UInt8) (h1 : a.toNat / 16 = 14) (h2 : b.toNat / 64 = 2) (h3 : c.toNat / 64 = 2) (hv : a.toNat % 16 * 4096 + b.toNat % 64 * 64 + c.toNat % 64 ≥ 2048)
      (hs : a.toNat % 16 * 4096 + b.toNat % 64 * 64 + c.toNat % 64 < 55296 ∨ 57344 ≤ a.toNat % 16 * 4096 + b.toNat % 64 * 64 + c.toNat % 64) : Ch [a, b, c]
  | four (a b c d : UInt8) (h1 : a.toNat / 8 = 30) (h2 : b.toNat / 64 = 2) (h3 : c.toNat / 64 = 2) (h4 : d.toNat / 64 = 2) (hv : a.toNat % 8 * 262144 + b.toNat % 64 * 4096 + c.toNat % 64 * 64 + d.toNat % 64 ≥ 65536)
      (hw : a.toNat % 8 * 262144 + b.toNat % 64 * 4096 + c.toNat % 64 * 64 + d.toNat % 64 ≤ 1114111) : Ch [a, b, c, d]
inductive Val : List UInt8 → Prop where
  | nil : Val []
  | cons {p r : List UInt8} (h : Ch p) (hr : Val r) : Val (p ++ r)
theorem Ch.ne {p : List UInt8} (h : Ch p) : p ≠ [] := by cases h <;> simp
theorem ch_step {p : List UInt8} (h : Ch p) (r : List UInt8) : ¬ ((Lib.decodeL (p ++ r)).1 = 65533 ∧ (Lib.decodeL (p ++ r)).2 = 1) ∧ (Lib.decodeL (p ++ r)).2 = p.length := by
  rw [Lib.decodeL_N]
  cases h with
  | one a h =>
    show ¬ ((Lib.decodeN _ a.toNat _ _ _).1 = 65533 ∧ (Lib.decodeN _ a.toNat _ _ _).2 = 1) ∧ (Lib.decodeN _ a.toNat _ _ _).2 = 1
    unfold Lib.decodeN
    rw [if_pos h]
    exact ⟨fun e => by have := e.1; dsimp only at this; omega, rfl⟩
  | two a b h1 h2 hv =>
    have hn : 1 < ([a, b] ++ r).length := by simp
    show ¬ ((Lib.decodeN _ a.toNat b.toNat _ _).1 = 65533 ∧ (Lib.decodeN _ a.toNat b.toNat _ _).2 = 1) ∧ (Lib.decodeN _ a.toNat b.toNat _ _).2 = 2
    unfold Lib.decodeN
    rw [if_neg (by omega), if_pos ⟨h1, hn, h2⟩, if_pos hv]
    exact ⟨fun e => (by cases e.2), rfl⟩
  | three a b c h1 h2 h3 hv hs =>
    have hn : 2 < ([a, b, c] ++ r).length := by simp
    show ¬ ((Lib.decodeN _ a.toNat b.toNat c.toNat _).1 = 65533 ∧ (Lib.decodeN _ a.toNat b.toNat c.toNat _).2 = 1) ∧ (Lib.decodeN _ a.toNat b.toNat c.toNat _).2 = 3
    unfold Lib.decodeN
    rw [if_neg (by omega), if_neg (by omega), if_pos ⟨h1, ⟨by omega, h2⟩, hn, h3⟩, if_pos ⟨hv, by omega⟩]
    exact ⟨fun e => (by cases e.2), rfl⟩
  | four a b c d h1 h2 h3 h4 hv hw =>
    have hn : 3 < ([a, b, c, d] ++ r).length := by simp
    show ¬ ((Lib.decodeN _ a.toNat b.toNat c.toNat d.toNat).1 = 65533 ∧ (Lib.decodeN _ a.toNat b.toNat c.toNat d.toNat).2 = 1) ∧ (Lib.decodeN _ a.toNat b.toNat c.toNat d.toNat).2 = 4
    unfold Lib.decodeN
    rw [if_neg (by omega), if_neg (by omega), if_neg (by omega), if_pos ⟨h1, ⟨by omega, h2⟩, ⟨by omega, h3⟩, hn, h4⟩, if_pos ⟨hv, by omega⟩]
    exact ⟨fun e => (by cases e.2), rfl⟩
theorem ch_of {l : List UInt8} (hne : l ≠ []) (hv : ¬ ((Lib.decodeL l).1 = 65533 ∧ (Lib.decodeL l).2 = 1)) : Ch (l.take (Lib.decodeL l).2) := by
  have hl : 0 < l.length := List.length_pos_iff.2 hne
  rw [Lib.decodeL_N] at hv ⊢
  have k0 := (l.getD 0 0).toNat_lt
  rcases Lib.decodeN_shape l.length (l.getD 0 0).toNat (l.getD 1 0).toNat (l.getD 2 0).toNat (l.getD 3 0).toNat with ⟨c, e⟩ | ⟨c1, c2, c3, cv, e⟩ | ⟨c1, c2, c3, c4, cv, cs, e⟩ | ⟨c1, c2, c3, c4, c5, cv, cw, e⟩ | e
  · rw [e]; dsimp only; rw [Lib.takeA l hl]; exact .one _ c
  · rw [e]; dsimp only; rw [Lib.takeB l c2]; exact .two _ _ (by omega) (by omega) (by omega)
  · rw [e]; dsimp only; rw [Lib.takeC l c2]; exact .three _ _ _ (by omega) (by omega) (by omega) (by omega) (by omega)
  · rw [e]; dsimp only; rw [Lib.takeD l c2]; exact .four _ _ _ _ (by omega) (by omega) (by omega) (by omega) (by omega) (by omega)
  · rw [e] at hv; exact absurd ⟨rfl, rfl⟩ hv
theorem val_of : ∀ (n : Nat) (l : List UInt8), l.length ≤ n → Lib.validD l = true → Val l
  | 0, l, hn, _ => by
    obtain rfl : l = [] := List.eq_nil_of_length_eq_zero (by omega)
    exact .nil
  | n + 1, l, hn, h => by
    by_cases hne : l = []
    · subst hne; exact .nil
    · rw [Lib.validD_step l hne] at h
      split at h
      · cases h
      · rename_i hv
        have hc := ch_of hne hv
        have hp : 0 < (l.take (Lib.decodeL l).2).length := List.length_pos_iff.2 hc.ne
        rw [List.length_take] at hp
        have hr := val_of n (l.drop (Lib.decodeL l).2) (by rw [List.length_drop]; omega) h
        have := Val.cons hc hr
        rwa [List.take_append_drop] at this
theorem of_val {l : List UInt8} (h : Val l) : Lib.validD l = true := by
  induction h with
  | nil => rfl
  | cons h hr ih =>
    rename_i p r
    obtain ⟨h1, h2⟩ := ch_step h r
    rw [Lib.validD_step _ (by simp [h.ne]), if_neg h1, h2, List.drop_left, ih]
theorem val_iff (l : List UInt8) : Lib.validD l = true ↔ Val l := ⟨val_of l.length l (Nat.le_refl _), of_val⟩
theorem Val.app {a b : List UInt8} (h : Val a) (hb : Val b) : Val (a ++ b) := by
  induction h with
  | nil => exact hb
  | cons h hr ih => rw [List.append_assoc]; exact .cons h ih
theorem Val.one {c : UInt8} {r : List UInt8} (h : c.toNat < 128) (hr : Val r) : Val (c :: r) := Val.cons (.one c h) hr
theorem Val.ascii : ∀ {l : List UInt8}, (∀ c ∈ l, c.toNat < 128) → Val l
  | [], _ => .nil
  | c :: _, h => .one (h c (by simp)) (Val.ascii fun c hc => h c (by simp [hc]))
/-- A character is one sign below 128, or all of its bytes are from 128 on. -/
theorem Ch.bytes {p : List UInt8} (h : Ch p) : (∃ c, p = [c] ∧ c.toNat < 128) ∨ ∀ c ∈ p, 128 ≤ c.toNat := by
  cases h with
  | one a h => exact .inl ⟨a, rfl, h⟩
  | two a b h1 h2 hv => exact .inr fun c hc => by simp at hc; rcases hc with rfl | rfl <;> omega
  | three a b c h1 h2 h3 hv hs => exact .inr fun c hc => by simp at hc; rcases hc with rfl | rfl | rfl <;> omega
  | four a b c d h1 h2 h3 h4 hv hw => exact .inr fun c hc => by simp at hc; rcases hc with rfl | rfl | rfl | rfl <;> omega
/-- Cut at a sign below 128. -/
theorem Val.cut {c : UInt8} (hc : c.toNat < 128) : ∀ {l r s : List UInt8}, Val s → s = l ++ c :: r → Val l ∧ Val r := by
  intro l r s h
  induction h generalizing l with
  | nil => intro e; simp at e
  | cons h hr ih =>
    rename_i p t
    intro e
    rcases h.bytes with ⟨x, rfl, hx⟩ | hb
    · cases l with
      | nil =>
        simp at e
        obtain ⟨rfl, rfl⟩ := e
        exact ⟨.nil, hr⟩
      | cons y l =>
        simp at e
        obtain ⟨rfl, e⟩ := e
        obtain ⟨k1, k2⟩ := ih e
        exact ⟨.one hx k1, k2⟩
    · rcases Nat.lt_or_ge l.length p.length with hlt | hge
      · have h1 : (p ++ t)[l.length]? = some c := by rw [e]; simp
        rw [List.getElem?_append_left hlt] at h1
        have := hb c (List.mem_of_getElem? h1)
        omega
      · obtain ⟨l', rfl⟩ : ∃ l', l = p ++ l' := by
          refine ⟨l.drop p.length, ?_⟩
          have h1 : (p ++ t).take p.length = (l ++ c :: r).take p.length := by rw [e]
          rw [List.take_left, List.take_append_of_le_length hge] at h1
          conv => rhs; lhs; rw [h1]
          rw [List.take_append_drop]
        rw [List.append_assoc] at e
        obtain ⟨k1, k2⟩ := ih (List.append_cancel_left e)
        exact ⟨.cons h k1, k2⟩

/-! ## Quoted -/
theorem dgL_asc (n : Nat) : (hexD n).toNat < 128 := by
  unfold hexD
  rw [List.getD_eq_getElem?_getD]
  rcases Nat.lt_or_ge n 16 with h | h
  · have : ∀ n : Nat, n < 16 → ((dgL[n]?).getD 0).toNat < 128 := by decide
    exact this n h
  · rw [List.getElem?_eq_none (by show 16 ≤ n; exact h)]; decide
theorem escT_asc {c : UInt8} (h : c.toNat < 128) : ∀ x ∈ escT c, x.toNat < 128 := by
  intro x hx
  unfold escT at hx
  have h1 := dgL_asc (c.toNat / 16)
  have h2 := dgL_asc (c.toNat % 16)
  repeat' split at hx
  all_goals simp at hx
  all_goals (rcases hx with rfl | rfl | rfl | rfl | rfl | rfl) <;> first | assumption | decide
theorem escT_high {c : UInt8} (h : 128 ≤ c.toNat) : escT c = [c] := by
  unfold escT
  rw [if_neg (by omega), if_neg (by omega), if_neg (by omega), if_neg (by omega), if_neg (by omega)]
theorem signsT_high : ∀ {p : List UInt8}, (∀ c ∈ p, 128 ≤ c.toNat) → signsT p = p
  | [], _ => rfl
  | c :: r, h => by
    show escT c ++ signsT r = _
    rw [escT_high (h c (by simp)), signsT_high fun c hc => h c (by simp [hc])]; (first | done | rfl)
theorem signsT_app (a b : List UInt8) : signsT (a ++ b) = signsT a ++ signsT b := by unfold signsT; simp
theorem Val.signs {s : List UInt8} (h : Val s) : Val (signsT s) := by
  induction h with
  | nil => exact .nil
  | cons h hr ih =>
    rw [signsT_app]
    refine Val.app ?_ ih
    rcases h.bytes with ⟨c, rfl, hc⟩ | hb
    · show Val (escT c ++ [])
      rw [List.append_nil]
      exact Val.ascii (escT_asc hc)
    · rw [signsT_high hb]
      have := Val.cons h .nil
      rwa [List.append_nil] at this
theorem Val.quote {s : List UInt8} (h : Val s) : Val (quoteT s) := by
  unfold quoteT
  exact Val.app (Val.app (Val.ascii (by decide)) h.signs) (Val.ascii (by decide))

/-! ## Characters by their numbers -/
set_option maxRecDepth 100000 in
theorem enc_bytes {n : Nat} (h : n < 55296 ∨ 57344 ≤ n ∧ n ≤ 1114111) : Ch (runeJ n) := by
  have hv : Utf8.valid (n : Int) = true := by
    unfold Utf8.valid
    simp
    omega
  have e : runeJ n = if n < 128 then [UInt8.ofNat n] else if n < 2048 then [UInt8.ofNat (192 + n / 64), UInt8.ofNat (128 + n % 64)] else if n < 65536 then [UInt8.ofNat (224 + n / 4096), UInt8.ofNat (128 + n / 64 % 64), UInt8.ofNat (128 + n % 64)]
      else [UInt8.ofNat (240 + n / 262144), UInt8.ofNat (128 + n / 4096 % 64), UInt8.ofNat (128 + n / 64 % 64), UInt8.ofNat (128 + n % 64)] := by
    unfold runeJ bytesJ Utf8.encode
    rw [hv]
    simp only [if_true]
    rw [show ((n : Int)).toNat = n from rfl]
    repeat' split
    all_goals first | rfl | omega
  have t : ∀ m : Nat, m < 256 → (UInt8.ofNat m).toNat = m := fun m hm => by rw [UInt8.toNat_ofNat']; omega
  rw [e]
  split
  · exact .one _ (by rw [t _ (by omega)]; assumption)
  split
  · refine .two _ _ ?_ ?_ ?_ <;> simp only [t _ (show 192 + n / 64 < 256 by omega), t _ (show 128 + n % 64 < 256 by omega)] <;> omega
  split
  · refine .three _ _ _ ?_ ?_ ?_ ?_ ?_ <;> simp only [t _ (show 224 + n / 4096 < 256 by omega), t _ (show 128 + n / 64 % 64 < 256 by omega), t _ (show 128 + n % 64 < 256 by omega)] <;> omega
  · refine .four _ _ _ _ ?_ ?_ ?_ ?_ ?_ ?_ <;> simp only [t _ (show 240 + n / 262144 < 256 by omega), t _ (show 128 + n / 4096 % 64 < 256 by omega), t _ (show 128 + n / 64 % 64 < 256 by omega), t _ (show 128 + n % 64 < 256 by omega)] <;> omega
theorem Ch.val {p : List UInt8} (h : Ch p) : Val p := by
  have := Val.cons h .nil
  rwa [List.append_nil] at this
end Go.Proofs.YtkhgmmejgikgnaaDoor

/- Layer 6 (json), plain: what is printed is read as it was. No program here. -/
namespace Go.Proofs.YtkhgmmejgikgnaaDoor
open Go.RowKit

/-! ## Signs -/
theorem signJ_step (f : Nat) (out : List UInt8) (c : UInt8) (r : List UInt8) : signJ (f + 1) out (c :: r) = if c.toNat < 32 then none else if c.toNat = 34 then some (out, r) else if c.toNat = 92 then match escJ r with | none => none | some (t, r') => signJ f (out ++ t) r'
    else signJ f (out ++ [c]) r := rfl
theorem hexJ_D : ∀ n : Nat, n < 16 → hexJ (hexD n) = some n := by decide
theorem sign_esc {c : UInt8} (f : Nat) (out r t r' : List UInt8) (he : escJ (c :: r) = some (t, r')) : signJ (f + 1) out (92 :: c :: r) = signJ f (out ++ t) r' := by
  rw [signJ_step, if_neg (by decide), if_neg (by decide), if_pos (by decide), he]
theorem esc_name {c : UInt8} {t : List UInt8} (r : List UInt8) (h : nameJ c = some t) : escJ (c :: r) = some (t, r) := by
  unfold escJ; dsimp only; rw [h]
theorem u8_eq {c : UInt8} {n : Nat} (h : c.toNat = n) : c = UInt8.ofNat n := by
  rw [← h]; simp
theorem sign_one (c : UInt8) (f : Nat) (out r : List UInt8) : signJ (f + 1) out (escT c ++ r) = signJ f (out ++ [c]) r := by
  by_cases k1 : c.toNat = 34 ∨ c.toNat = 92
  · have e : escT c = [92, c] := by unfold escT; rw [if_pos k1]
    rw [e]
    exact sign_esc f out r [c] r (esc_name r (by unfold nameJ; rw [if_pos (by omega)]))
  by_cases k2 : c.toNat = 10
  · obtain rfl : c = 10 := u8_eq k2
    exact sign_esc f out r [10] r rfl
  by_cases k3 : c.toNat = 13
  · obtain rfl : c = 13 := u8_eq k3
    exact sign_esc f out r [13] r rfl
  by_cases k4 : c.toNat = 9
  · obtain rfl : c = 9 := u8_eq k4
    exact sign_esc f out r [9] r rfl
  by_cases k5 : c.toNat < 32 ∨ c.toNat = 127
  · have e : escT c = [92, 117, 48, 48, hexD (c.toNat / 16), hexD (c.toNat % 16)] := by unfold escT; rw [if_neg k1, if_neg k2, if_neg k3, if_neg k4, if_pos k5]
    rw [e]
    refine sign_esc f out _ [c] r ?_
    show charJ (48 :: 48 :: hexD (c.toNat / 16) :: hexD (c.toNat % 16) :: r) = _
    have e4 : fourJ (48 :: 48 :: hexD (c.toNat / 16) :: hexD (c.toNat % 16) :: r) = some (c.toNat, r) := by
      unfold fourJ
      dsimp only
      rw [show hexJ 48 = some 0 from rfl, hexJ_D _ (by omega), hexJ_D _ (by omega)]
      simp only [Option.some.injEq, Prod.mk.injEq, and_true]
      omega
    unfold charJ
    rw [e4]
    dsimp only
    rw [if_neg (by omega), if_neg (by omega)]
    have : runeJ c.toNat = [c] := by
      show bytesJ (Utf8.encode (c.toNat : Int)) = [c]
      rw [enc_low c.toNat (by omega)]; simp
    rw [this]
  · have e : escT c = [c] := by unfold escT; rw [if_neg k1, if_neg k2, if_neg k3, if_neg k4, if_neg k5]
    rw [e]
    show signJ (f + 1) out (c :: r) = _
    rw [signJ_step, if_neg (by omega), if_neg (by omega), if_neg (by omega)]
theorem signs_all : ∀ (s : List UInt8) (f : Nat) (out rest : List UInt8), s.length < f → signJ f out (signsT s ++ 34 :: rest) = some (out ++ s, rest)
  | [], f + 1, out, rest, _ => by
    show signJ (f + 1) out (34 :: rest) = _
    rw [signJ_step, if_neg (by decide), if_pos (by decide), List.append_nil]
  | c :: s, f + 1, out, rest, h => by
    show signJ (f + 1) out ((escT c ++ signsT s) ++ 34 :: rest) = _
    rw [List.append_assoc, sign_one, signs_all s f _ _ (by simpa using h), List.append_assoc]; (first | done | rfl)
theorem signsT_ge : ∀ s : List UInt8, s.length ≤ (signsT s).length
  | [] => Nat.le_refl _
  | c :: r => by
    have h1 := signsT_ge r
    have h2 : 1 ≤ (escT c).length := by
      unfold escT
      repeat' split
      all_goals simp
    show _ ≤ (escT c ++ signsT r).length
    rw [List.length_append, List.length_cons]; omega
theorem text_quote (s rest : List UInt8) : textJ (quoteT s ++ rest) = some (s, rest) := by
  have e : quoteT s ++ rest = 34 :: (signsT s ++ 34 :: rest) := by unfold quoteT; simp
  rw [e]
  show (if (34 : UInt8) = 34 then signJ ((signsT s ++ 34 :: rest).length + 1) [] (signsT s ++ 34 :: rest) else none) = _
  rw [if_pos rfl, signs_all s _ _ _ (by have := signsT_ge s; rw [List.length_append]; omega)]; (first | done | rfl)

/-! ## Numbers -/
theorem parseM_snoc (M : Nat) (c : UInt8) {v : Nat} : ∀ {a : List UInt8} {acc : Nat}, Lib.parseUintM M acc a = .ok v → Lib.parseUintM M acc (a ++ [c]) = Lib.parseUintM M v [c]
  | [], acc, h => by
    obtain rfl : acc = v := by
      have h : Lib.NumEnd.ok acc = .ok v := h
      injection h
    rfl
  | x :: a, acc, h => by
    rw [Lib.parseUintM] at h
    rw [List.cons_append, Lib.parseUintM]
    split at h
    · rename_i h1
      split at h
      · cases h
      · rename_i h2
        split at h
        · cases h
        · rename_i h3
          rw [if_pos h1, if_neg h2, if_neg h3]
          exact parseM_snoc M c h
    · cases h
theorem parseM_digits (u : Nat) (h : u < 18446744073709551616) : Lib.parseUintM 18446744073709551615 0 (Lib.decDigits u) = .ok u := by
  have one : ∀ v d : Nat, d < 10 → v < 1844674407370955162 → v * 10 + d ≤ 18446744073709551615 → Lib.parseUintM 18446744073709551615 v [UInt8.ofNat (48 + d)] = .ok (v * 10 + d) := fun v d hd hv hm => by
    have e : (UInt8.ofNat (48 + d)).toNat = 48 + d := by rw [UInt8.toNat_ofNat']; omega
    unfold Lib.parseUintM
    rw [e, if_pos (by omega), if_neg (by omega), if_neg (by omega)]
    unfold Lib.parseUintM
    rw [show 48 + d - 48 = d by omega]
  induction u using Nat.strongRecOn with
  | ind u ih =>
    rw [Lib.decDigits]
    split
    · rename_i hu
      rw [one 0 u hu (by omega) (by omega)]; simp
    · rename_i hu
      rw [parseM_snoc _ _ (ih (u / 10) (by omega) (by omega))]
      rw [one (u / 10) (u % 10) (by omega) (by omega) (by omega)]
      congr 1; omega
theorem dec_dig (u : Nat) : ∀ c ∈ Lib.decDigits u, 48 ≤ c.toNat ∧ c.toNat ≤ 57 := by
  induction u using Nat.strongRecOn with
  | ind u ih =>
    rw [Lib.decDigits]
    intro c hc
    split at hc
    · rw [List.mem_singleton.1 hc, UInt8.toNat_ofNat']; omega
    · rcases List.mem_append.1 hc with hc | hc
      · exact ih (u / 10) (by omega) c hc
      · rw [List.mem_singleton.1 hc, UInt8.toNat_ofNat']; omega
theorem takeW_all {p : UInt8 → Bool} : ∀ {a rest : List UInt8}, (∀ c ∈ a, p c = true) → (∀ c, rest.head? = some c → p c = false) → (a ++ rest).takeWhile p = a
  | [], rest, _, h => by
    cases rest with
    | nil => rfl
    | cons c r => rw [List.nil_append, List.takeWhile_cons_of_neg (by rw [h c rfl]; decide)]
  | x :: a, rest, h1, h2 => by
    rw [List.cons_append, List.takeWhile_cons_of_pos (h1 x (by simp)), takeW_all (fun c hc => h1 c (by simp [hc])) h2]
theorem digJ_iff (c : UInt8) : digJ c = true ↔ 48 ≤ c.toNat ∧ c.toNat ≤ 57 := by unfold digJ; simp
theorem int_itoa (v : Int) (h0 : -9007199254740992 ≤ v) (h1 : v ≤ 9007199254740992) : intJ (Lib.itoa v) = some v := by
  have hp : Lib.parseIntB 64 (Lib.itoa v) = .ok v := by
    unfold Lib.itoa
    split
    · rename_i hn
      rw [Lib.parseIntB_minus]
      have e : Lib.parseUintB 64 (Lib.decDigits v.natAbs) = .ok v.natAbs := by
        unfold Lib.parseUintB
        rw [if_neg (dec_ne _)]
        exact parseM_digits _ (by omega)
      rw [e]
      have h2 : (2 : Nat) ^ (64 - 1) = 9223372036854775808 := by decide
      show (if 2 ^ (64 - 1) < v.natAbs then Lib.NumEnd.range else .ok (-(v.natAbs : Int))) = .ok v
      rw [if_neg (by omega), show -(v.natAbs : Int) = v by omega]
    · rename_i hn
      have e : Lib.parseUintB 64 (Lib.decDigits v.toNat) = .ok v.toNat := by
        unfold Lib.parseUintB
        rw [if_neg (dec_ne _)]
        exact parseM_digits _ (by omega)
      have hd := dec_dig v.toNat
      cases hl : Lib.decDigits v.toNat with
      | nil => exact absurd hl (dec_ne _)
      | cons c r =>
        rw [hl] at e hd
        have := hd c (by simp)
        rw [Lib.parseIntB_plain 64 c r (by omega) (by omega), e]
        have h2 : (2 : Nat) ^ (64 - 1) = 9223372036854775808 := by decide
        show (if 2 ^ (64 - 1) ≤ v.toNat then Lib.NumEnd.range else .ok (v.toNat : Int)) = .ok v
        rw [if_neg (by omega), show (v.toNat : Int) = v by omega]
  unfold intJ
  rw [hp]
  dsimp only
  rw [if_pos ⟨rfl, h0, h1⟩]
theorem num_itoa (v : Int) (h0 : -9007199254740992 ≤ v) (h1 : v ≤ 9007199254740992) (rest : List UInt8) (hr : ∀ c, rest.head? = some c → digJ c = false) : numJ (Lib.itoa v ++ rest) = some (.mk 2 false v [] [] [], rest) := by
  have e : signsJ (Lib.itoa v ++ rest) = Lib.itoa v := by
    unfold Lib.itoa
    split
    · show 45 :: (Lib.decDigits v.natAbs ++ rest).takeWhile digJ = _
      rw [takeW_all (fun c hc => (digJ_iff c).2 (dec_dig _ c hc)) hr]
    · have hd := dec_dig v.toNat
      have hw := takeW_all (p := digJ) (fun c hc => (digJ_iff c).2 (hd c hc)) hr
      cases hl : Lib.decDigits v.toNat with
      | nil => exact absurd hl (dec_ne _)
      | cons c r =>
        rw [hl] at hd hw
        have h45 : c ≠ 45 := fun e => by have := hd c (by simp); rw [e] at this; revert this; decide
        rw [signs_no (by simpa using h45)]
        exact hw
  unfold numJ
  rw [e, int_itoa v h0 h1]
  dsimp only
  rw [List.drop_left]

/-! ## Heads -/
def headOK (c : UInt8) : Prop := c = 110 ∨ c = 116 ∨ c = 102 ∨ c = 45 ∨ c = 34 ∨ c = 91 ∨ c = 123 ∨ 48 ≤ c.toNat ∧ c.toNat ≤ 57
theorem headOK.no {c : UInt8} (h : headOK c) : blankJ c = false ∧ c ≠ 93 ∧ c ≠ 125 ∧ c ≠ 44 := by
  have hx : ∀ c : UInt8, (c = 110 ∨ c = 116 ∨ c = 102 ∨ c = 45 ∨ c = 34 ∨ c = 91 ∨ c = 123 ∨ 48 ≤ c.toNat ∧ c.toNat ≤ 57) → blankJ c = false ∧ c ≠ 93 ∧ c ≠ 125 ∧ c ≠ 44 :=
    byte_all (p := fun c => (c = 110 ∨ c = 116 ∨ c = 102 ∨ c = 45 ∨ c = 34 ∨ c = 91 ∨ c = 123 ∨ 48 ≤ c.toNat ∧ c.toNat ≤ 57) → blankJ c = false ∧ c ≠ 93 ∧ c ≠ 125 ∧ c ≠ 44) (by decide +kernel)
  exact hx c h
theorem skip_no {c : UInt8} {r : List UInt8} (h : blankJ c = false) : skipJ (c :: r) = c :: r := by
  show List.dropWhile blankJ (c :: r) = _
  rw [List.dropWhile_cons_of_neg (by rw [h]; decide)]
/-- What may stand behind a value. -/
def restOK (rest : List UInt8) : Prop := ∀ c, rest.head? = some c → c = 44 ∨ c = 93 ∨ c = 125
theorem restOK.dig {rest : List UInt8} (h : restOK rest) : ∀ c, rest.head? = some c → digJ c = false := fun c hc => by
  rcases h c hc with rfl | rfl | rfl <;> decide

/-! ## Lists, maps -/
/-- A value's text is read. -/
def Reads (val : List UInt8 → Option (JT × List UInt8)) (t : List UInt8) (x : JT) : Prop := (∃ c r, t = c :: r ∧ headOK c) ∧ ∀ rest, restOK rest → val (t ++ rest) = some (x, rest)
theorem end_first (sign : UInt8) (hs : sign = 93 ∨ sign = 125) {t : List UInt8} (h : ∃ c r, t = c :: r ∧ headOK c) (rest : List UInt8) : endJ sign true (t ++ rest) = some (some (t ++ rest)) := by
  obtain ⟨c, r, rfl, hc⟩ := h
  obtain ⟨n1, n2, n3, _⟩ := hc.no
  unfold endJ
  rw [List.cons_append, skip_no n1, if_neg, if_pos rfl]
  intro e
  have e : c = sign := by simpa using e
  rcases hs with rfl | rfl
  · exact n2 e
  · exact n3 e
theorem end_next (sign : UInt8) (hs : sign = 93 ∨ sign = 125) (s : List UInt8) : endJ sign false (44 :: s) = some (some s) := by
  unfold endJ
  rw [skip_no (show blankJ 44 = false by decide), if_neg, if_neg (by decide), if_pos (show (44 :: s).head? = some 44 from rfl)]; (first | done | rfl)
  intro e
  rcases hs with rfl | rfl <;> simp at e
theorem catC_rest (l : List (List UInt8)) (sign : UInt8) (hs : sign = 93 ∨ sign = 125) (rest : List UInt8) : restOK (catC l ++ sign :: rest) := by
  intro c hc
  cases l with
  | nil => simp [catC] at hc; rcases hs with rfl | rfl <;> simp [← hc]
  | cons x l => simp [catC] at hc; simp [← hc]
theorem list_next (val : List UInt8 → Option (JT × List UInt8)) (tx : JT → List UInt8) (rest : List UInt8) : ∀ (l acc : List JT) (f : Nat), acc ≠ [] → l.length < f → (∀ x ∈ l, Reads val (tx x) x) → listJ val f acc (catC (l.map tx) ++ 93 :: rest) = some (.mk 4 false 0 [] (acc ++ l) [], rest)
  | [], acc, f + 1, ha, _, _ => by
    obtain ⟨k1, k2⟩ := endJ_yes 93 false rest (.inl rfl)
    have he : acc.isEmpty = false := by cases acc with | nil => exact absurd rfl ha | cons _ _ => rfl
    show listJ val (f + 1) acc (93 :: rest) = _
    unfold listJ
    rw [he, k2]
    dsimp only
    rw [k1, List.append_nil]; (first | done | rfl)
  | x :: l, acc, f + 1, ha, hf, hx => by
    have he : acc.isEmpty = false := by cases acc with | nil => exact absurd rfl ha | cons _ _ => rfl
    show listJ val (f + 1) acc ((44 :: (tx x ++ catC (l.map tx))) ++ 93 :: rest) = _
    unfold listJ
    rw [he, List.cons_append, end_next 93 (.inl rfl)]
    dsimp only
    rw [List.append_assoc, (hx x (by simp)).2 _ (catC_rest _ 93 (.inl rfl) rest)]
    dsimp only
    rw [list_next val tx rest l (acc ++ [x]) f (by simp) (by simpa using hf) (fun y hy => hx y (by simp [hy])), List.append_assoc]; (first | done | rfl)
theorem list_all (val : List UInt8 → Option (JT × List UInt8)) (tx : JT → List UInt8) (rest : List UInt8) (l : List JT) (f : Nat) (hf : l.length < f) (hx : ∀ x ∈ l, Reads val (tx x) x) : listJ val f [] (joinC (l.map tx) ++ 93 :: rest) = some (.mk 4 false 0 [] l [], rest) := by
  obtain ⟨f, rfl⟩ : ∃ g, f = g + 1 := ⟨f - 1, by omega⟩
  cases l with
  | nil =>
    obtain ⟨k1, k2⟩ := endJ_yes 93 true rest (.inl rfl)
    show listJ val (f + 1) [] (93 :: rest) = _
    unfold listJ
    rw [show ([] : List JT).isEmpty = true from rfl, k2]
    dsimp only
    rw [k1]; (first | done | rfl)
  | cons x l =>
    show listJ val (f + 1) [] ((tx x ++ catC (l.map tx)) ++ 93 :: rest) = _
    unfold listJ
    rw [show ([] : List JT).isEmpty = true from rfl, List.append_assoc, end_first 93 (.inl rfl) (hx x (by simp)).1]
    dsimp only
    rw [(hx x (by simp)).2 _ (catC_rest _ 93 (.inl rfl) rest)]
    dsimp only
    rw [list_next val tx rest l ([] ++ [x]) f (by simp) (by simpa using hf) (fun y hy => hx y (by simp [hy]))]; (first | done | rfl)
def kvT (tx : JT → List UInt8) (p : List UInt8 × JT) : List UInt8 := quoteT p.1 ++ [58] ++ tx p.2
theorem kvT_head (tx : JT → List UInt8) (p : List UInt8 × JT) : ∃ c r, kvT tx p = c :: r ∧ headOK c := ⟨34, signsT p.1 ++ [34] ++ [58] ++ tx p.2, by unfold kvT quoteT; simp, by unfold headOK; simp⟩
theorem key_pair (tx : JT → List UInt8) (p : List UInt8 × JT) (keys : List (List UInt8)) (hk : p.1 ∉ keys) (rest : List UInt8) : keyJ keys (kvT tx p ++ rest) = some (p.1, tx p.2 ++ rest) := by
  have e : kvT tx p ++ rest = quoteT p.1 ++ (58 :: (tx p.2 ++ rest)) := by unfold kvT; simp
  have e2 : quoteT p.1 ++ (58 :: (tx p.2 ++ rest)) = 34 :: (signsT p.1 ++ [34] ++ (58 :: (tx p.2 ++ rest))) := by unfold quoteT; simp
  unfold keyJ
  rw [e, e2, skip_no (by decide), ← e2, text_quote]
  dsimp only
  rw [skip_no (show blankJ 58 = false by decide), if_pos ⟨rfl, hk⟩]; (first | done | rfl)
theorem table_next (val : List UInt8 → Option (JT × List UInt8)) (tx : JT → List UInt8) (rest : List UInt8) : ∀ (l : List (List UInt8 × JT)) (keys : List (List UInt8)) (acc : List JT) (f : Nat), acc ≠ [] → l.length < f → (∀ p ∈ l, Reads val (tx p.2) p.2) → (keys ++ l.map Prod.fst).Nodup →
    tableJ val f keys acc (catC (l.map (kvT tx)) ++ 125 :: rest) = some (.mk 5 false 0 [] (acc ++ l.map Prod.snd) (keys ++ l.map Prod.fst), rest)
  | [], keys, acc, f + 1, ha, _, _, _ => by
    obtain ⟨k1, k2⟩ := endJ_yes 125 false rest (.inr rfl)
    have he : acc.isEmpty = false := by cases acc with | nil => exact absurd rfl ha | cons _ _ => rfl
    show tableJ val (f + 1) keys acc (125 :: rest) = _
    unfold tableJ
    rw [he, k2]
    dsimp only
    rw [k1]; simp
  | p :: l, keys, acc, f + 1, ha, hf, hx, hn => by
    have he : acc.isEmpty = false := by cases acc with | nil => exact absurd rfl ha | cons _ _ => rfl
    have hk : p.1 ∉ keys := fun h => by
      rw [List.nodup_append] at hn
      exact hn.2.2 p.1 h p.1 (by simp) rfl
    show tableJ val (f + 1) keys acc ((44 :: (kvT tx p ++ catC (l.map (kvT tx)))) ++ 125 :: rest) = _
    unfold tableJ
    rw [he, List.cons_append, end_next 125 (.inr rfl)]
    dsimp only
    rw [List.append_assoc, key_pair tx p keys hk]
    dsimp only
    rw [(hx p (by simp)).2 _ (catC_rest _ 125 (.inr rfl) rest)]
    dsimp only
    rw [table_next val tx rest l (keys ++ [p.1]) (acc ++ [p.2]) f (by simp) (by simpa using hf) (fun y hy => hx y (by simp [hy])) (by simpa using hn)]
    simp
theorem table_all (val : List UInt8 → Option (JT × List UInt8)) (tx : JT → List UInt8) (rest : List UInt8) (l : List (List UInt8 × JT)) (f : Nat) (hf : l.length < f) (hx : ∀ p ∈ l, Reads val (tx p.2) p.2) (hn : (l.map Prod.fst).Nodup) :
    tableJ val f [] [] (joinC (l.map (kvT tx)) ++ 125 :: rest) = some (.mk 5 false 0 [] (l.map Prod.snd) (l.map Prod.fst), rest) := by
  obtain ⟨f, rfl⟩ : ∃ g, f = g + 1 := ⟨f - 1, by omega⟩
  cases l with
  | nil =>
    obtain ⟨k1, k2⟩ := endJ_yes 125 true rest (.inr rfl)
    show tableJ val (f + 1) [] [] (125 :: rest) = _
    unfold tableJ
    rw [show ([] : List JT).isEmpty = true from rfl, k2]
    dsimp only
    rw [k1]; (first | done | rfl)
  | cons p l =>
    show tableJ val (f + 1) [] [] ((kvT tx p ++ catC (l.map (kvT tx))) ++ 125 :: rest) = _
    unfold tableJ
    rw [show ([] : List JT).isEmpty = true from rfl, List.append_assoc, end_first 125 (.inr rfl) (kvT_head tx p)]
    dsimp only
    rw [key_pair tx p [] (by simp)]
    dsimp only
    rw [(hx p (by simp)).2 _ (catC_rest _ 125 (.inr rfl) rest)]
    dsimp only
    rw [table_next val tx rest l ([] ++ [p.1]) ([] ++ [p.2]) f (by simp) (by simpa using hf) (fun y hy => hx y (by simp [hy])) (by simpa using hn)]
    simp

/-! ## Values -/
theorem items4 (ks ts : List (List UInt8)) : itemsT 4 ks ts ts.length = ts := by
  apply List.ext_getElem?
  intro i
  unfold itemsT
  rw [List.getElem?_map]
  rcases Nat.lt_or_ge i ts.length with h | h
  · rw [List.getElem?_range h, List.getElem?_eq_getElem h]
    show some ([] ++ ts.getD i []) = _
    rw [List.getD_eq_getElem?_getD, List.getElem?_eq_getElem h]; (first | done | rfl)
  · rw [List.getElem?_eq_none (by simpa using h), List.getElem?_eq_none h]; (first | done | rfl)
theorem items5 (tx : JT → List UInt8) (ks : List (List UInt8)) (l : List JT) (h : ks.length = l.length) : itemsT 5 ks (l.map tx) l.length = (ks.zip l).map (kvT tx) := by
  apply List.ext_getElem?
  intro i
  unfold itemsT
  rw [List.getElem?_map, List.getElem?_map]
  rcases Nat.lt_or_ge i l.length with hi | hi
  · have hk : i < ks.length := by omega
    rw [List.getElem?_range hi, List.getElem?_eq_getElem (by rw [List.length_zip]; omega)]
    simp only [Option.map_some, List.getElem_zip]
    unfold kvT preT
    rw [if_pos rfl, List.getD_eq_getElem?_getD, List.getD_eq_getElem?_getD, List.getElem?_eq_getElem hk, List.getElem?_map, List.getElem?_eq_getElem hi]; (first | done | rfl)
  · rw [List.getElem?_eq_none (by simpa using hi), List.getElem?_eq_none (by rw [List.length_zip]; omega)]; (first | done | rfl)
theorem bare_of {is nu te li ke b : Bool} {i : Int} {t : List UInt8} {n m : Nat} (h : bareB is nu te li ke b i t n m = true) : (is = true ∨ b = false) ∧ (nu = true ∨ i = 0) ∧ (te = true ∨ t = []) ∧ (li = true ∨ n = 0) ∧ (ke = true ∨ m = 0) := by
  unfold bareB at h
  simp only [Bool.and_eq_true, Bool.or_eq_true, decide_eq_true_eq, Bool.not_eq_true'] at h
  obtain ⟨⟨⟨⟨h1, h2⟩, h3⟩, h4⟩, h5⟩ := h
  exact ⟨h1, h2, h3, h4.imp id (fun h => by omega), h5.imp id (fun h => by omega)⟩
theorem itoa_head (v : Int) : ∃ c r, Lib.itoa v = c :: r ∧ headOK c := by
  unfold Lib.itoa
  split
  · exact ⟨45, _, rfl, by unfold headOK; simp⟩
  · have hd := dec_dig v.toNat
    cases hl : Lib.decDigits v.toNat with
    | nil => exact absurd hl (dec_ne _)
    | cons c r =>
      rw [hl] at hd
      exact ⟨c, r, rfl, by have := hd c (by simp); unfold headOK; omega⟩
theorem valueB_other (val : List UInt8 → Option (JT × List UInt8)) (c : UInt8) (r : List UInt8) (h : c ≠ 110 ∧ c ≠ 116 ∧ c ≠ 102) : valueB val (c :: r) = if c = 34 then match textJ (c :: r) with | some (t, r') => some (.mk 3 false 0 t [] [], r') | none => none
    else if c = 91 then listJ val (r.length + 1) [] r else if c = 123 then tableJ val (r.length + 1) [] [] r else numJ (c :: r) := by
  have h1 : (c :: r).take 4 ≠ nullS' := fun e => by simp [nullS'] at e; exact h.1 e.1
  have h2 : (c :: r).take 4 ≠ trueS' := fun e => by simp [trueS'] at e; exact h.2.1 e.1
  have h3 : (c :: r).take 5 ≠ falseS' := fun e => by simp [falseS'] at e; exact h.2.2 e.1
  unfold valueB
  dsimp only
  rw [if_neg h1, if_neg h2, if_neg h3]
  (first | done | rfl)
theorem joinC_len (l : List (List UInt8)) (h : ∀ t ∈ l, t ≠ []) : l.length ≤ (joinC l).length + 1 ∧ (l ≠ [] → l.length ≤ (joinC l).length) := by
  have hc : ∀ l : List (List UInt8), (∀ t ∈ l, t ≠ []) → 2 * l.length ≤ (catC l).length := by
    intro l
    induction l with
    | nil => intro _; exact Nat.le_refl _
    | cons x l ih =>
      intro h
      have h1 := ih fun t ht => h t (by simp [ht])
      have h2 : 0 < x.length := List.length_pos_iff.2 (h x (by simp))
      show _ ≤ (44 :: (x ++ catC l)).length
      simp; omega
  have := hc l h
  unfold joinC
  rw [List.length_drop]
  constructor
  · omega
  · intro hne
    have : 0 < l.length := List.length_pos_iff.2 hne
    omega
theorem reads_text : ∀ (d : Nat) (x : JT), rightT d x = true → Reads (valueJ d) (textT d x) x
  | 0, x, h => by cases h
  | d + 1, .mk k b i t l ks, h => by
    have ih := fun x hx => reads_text d x hx
    have hsk : ∀ {c : UInt8} {r rest : List UInt8}, headOK c → valueJ (d + 1) (c :: r ++ rest) = valueB (valueJ d) (c :: (r ++ rest)) := fun {c r rest} hc => by
      show valueB (valueJ d) (skipJ (c :: (r ++ rest))) = _
      rw [skip_no hc.no.1]
    by_cases e0 : k = 0
    · subst e0
      obtain ⟨b1, b2, b3, b4, b5⟩ := bare_of (show bareB false false false false false b i t l.length ks.length = true from h)
      simp at b1 b2 b3 b4 b5
      subst b1 b2 b3 b4 b5
      refine ⟨⟨110, [117, 108, 108], rfl, by unfold headOK; simp⟩, fun rest _ => ?_⟩
      show valueJ (d + 1) (110 :: [117, 108, 108] ++ rest) = _
      rw [hsk (by unfold headOK; simp)]; (first | done | rfl)
    by_cases e1 : k = 1
    · subst e1
      obtain ⟨_, b2, b3, b4, b5⟩ := bare_of (show bareB true false false false false b i t l.length ks.length = true from h)
      simp at b2 b3 b4 b5
      subst b2 b3 b4 b5
      cases b with
      | true =>
        refine ⟨⟨116, [114, 117, 101], rfl, by unfold headOK; simp⟩, fun rest _ => ?_⟩
        show valueJ (d + 1) (116 :: [114, 117, 101] ++ rest) = _
        rw [hsk (by unfold headOK; simp)]; (first | done | rfl)
      | false =>
        refine ⟨⟨102, [97, 108, 115, 101], rfl, by unfold headOK; simp⟩, fun rest _ => ?_⟩
        show valueJ (d + 1) (102 :: [97, 108, 115, 101] ++ rest) = _
        rw [hsk (by unfold headOK; simp)]; (first | done | rfl)
    by_cases e2 : k = 2
    · subst e2
      have h : (bareB false true false false false b i t l.length ks.length && (decide (-9007199254740992 ≤ i) && decide (i ≤ 9007199254740992))) = true := h
      rw [Bool.and_eq_true, Bool.and_eq_true, decide_eq_true_eq, decide_eq_true_eq] at h
      obtain ⟨b1, _, b3, b4, b5⟩ := bare_of h.1
      simp at b1 b3 b4 b5
      subst b1 b3 b4 b5
      obtain ⟨c, r, e, hc⟩ := itoa_head i
      refine ⟨⟨c, r, e, hc⟩, fun rest hr => ?_⟩
      show valueJ (d + 1) (Lib.itoa i ++ rest) = _
      have hn := num_itoa i h.2.1 h.2.2 rest hr.dig
      have hc2 : c ≠ 110 ∧ c ≠ 116 ∧ c ≠ 102 ∧ c ≠ 34 ∧ c ≠ 91 ∧ c ≠ 123 := by
        have hd : c = 45 ∨ 48 ≤ c.toNat ∧ c.toNat ≤ 57 := by
          unfold Lib.itoa at e
          split at e
          · simp at e; exact .inl e.1.symm
          · exact .inr (dec_dig i.toNat c (by rw [e]; simp))
        rcases hd with rfl | hd
        · decide
        · refine ⟨?_, ?_, ?_, ?_, ?_, ?_⟩ <;> (rintro rfl; revert hd; decide)
      rw [e] at hn ⊢
      rw [hsk hc, valueB_other _ _ _ ⟨hc2.1, hc2.2.1, hc2.2.2.1⟩, if_neg hc2.2.2.2.1, if_neg hc2.2.2.2.2.1, if_neg hc2.2.2.2.2.2]
      exact hn
    by_cases e3 : k = 3
    · subst e3
      have h : (bareB false false true false false b i t l.length ks.length && Lib.validD t) = true := h
      rw [Bool.and_eq_true] at h
      obtain ⟨b1, b2, _, b4, b5⟩ := bare_of h.1
      simp at b1 b2 b4 b5
      subst b1 b2 b4 b5
      have e : quoteT t = 34 :: (signsT t ++ [34]) := by unfold quoteT; simp
      refine ⟨⟨34, _, e, by unfold headOK; simp⟩, fun rest hr => ?_⟩
      show valueJ (d + 1) (quoteT t ++ rest) = _
      have hq := text_quote t rest
      rw [e] at hq ⊢
      rw [hsk (by unfold headOK; simp), valueB_other _ _ _ (by decide), if_pos rfl]
      rw [List.cons_append] at hq
      rw [hq]
    by_cases e4 : k = 4
    · subst e4
      have h : (bareB false false false true false b i t l.length ks.length && l.all (rightT d)) = true := h
      rw [Bool.and_eq_true, List.all_eq_true] at h
      obtain ⟨b1, b2, b3, _, b5⟩ := bare_of h.1
      simp at b1 b2 b3 b5
      subst b1 b2 b3 b5
      have e : textT (d + 1) (.mk 4 false 0 [] l []) = 91 :: (joinC (l.map (textT d)) ++ [93]) := by
        show [91] ++ joinC (itemsT 4 [] (l.map (textT d)) l.length) ++ [93] = _
        rw [show l.length = (l.map (textT d)).length by simp, items4]; (first | done | rfl)
      rw [e]
      refine ⟨⟨91, _, rfl, by unfold headOK; simp⟩, fun rest hr => ?_⟩
      rw [hsk (by unfold headOK; simp), valueB_other _ _ _ (by decide), if_neg (by decide), if_pos rfl, List.append_assoc]
      have hx := fun x hx => ih x (h.2 x hx)
      refine list_all (valueJ d) (textT d) rest l _ ?_ hx
      have := joinC_len (l.map (textT d)) (fun t ht => by
        obtain ⟨x, hx', rfl⟩ := List.mem_map.1 ht
        exact textT_ne (h.2 x hx'))
      simp at this ⊢; omega
    by_cases e5 : k = 5
    · subst e5
      have h : (bareB false false false true true b i t l.length ks.length && decide ((ks.length : Int) = l.length) && distinctT ks && l.all (rightT d)) = true := h
      rw [Bool.and_eq_true, Bool.and_eq_true, Bool.and_eq_true, List.all_eq_true, decide_eq_true_eq] at h
      obtain ⟨⟨⟨h1, h2⟩, h3⟩, h4⟩ := h
      obtain ⟨b1, b2, b3, _, _⟩ := bare_of h1
      simp at b1 b2 b3
      subst b1 b2 b3
      have hlen : ks.length = l.length := by omega
      have e : textT (d + 1) (.mk 5 false 0 [] l ks) = 123 :: (joinC ((ks.zip l).map (kvT (textT d))) ++ [125]) := by
        show [123] ++ joinC (itemsT 5 ks (l.map (textT d)) l.length) ++ [125] = _
        rw [items5 _ _ _ hlen]; (first | done | rfl)
      rw [e]
      refine ⟨⟨123, _, rfl, by unfold headOK; simp⟩, fun rest hr => ?_⟩
      rw [hsk (by unfold headOK; simp), valueB_other _ _ _ (by decide), if_neg (by decide), if_neg (by decide), if_pos rfl, List.append_assoc]
      have hf : (ks.zip l).map Prod.fst = ks := List.map_fst_zip (by omega)
      have hs : (ks.zip l).map Prod.snd = l := List.map_snd_zip (by omega)
      have hnd : ks.Nodup := by
        unfold distinctT at h3
        rw [Bool.and_eq_true, decide_eq_true_eq] at h3
        exact h3.2
      have hx : ∀ p ∈ ks.zip l, Reads (valueJ d) (textT d p.2) p.2 := fun p hp => ih p.2 (h4 p.2 (List.of_mem_zip hp).2)
      have := table_all (valueJ d) (textT d) rest (ks.zip l) ((joinC ((ks.zip l).map (kvT (textT d))) ++ ([125] ++ rest)).length + 1) ?_ hx (by rw [hf]; exact hnd)
      · rw [hf, hs] at this
        exact this
      have := joinC_len ((ks.zip l).map (kvT (textT d))) (fun t ht => by
        obtain ⟨x, _, rfl⟩ := List.mem_map.1 ht
        obtain ⟨c, r, e, _⟩ := kvT_head (textT d) x
        rw [e]; simp)
      simp only [List.length_map, List.length_append, List.length_cons, List.length_nil] at this ⊢; omega
    simp [rightT, e0, e1, e2, e3, e4, e5] at h
theorem catC_val {l : List (List UInt8)} (h : ∀ t ∈ l, Val t) : Val (catC l) := by
  induction l with
  | nil => exact .nil
  | cons x l ih => exact .one (by decide) ((h x (by simp)).app (ih fun t ht => h t (by simp [ht])))
theorem joinC_val {l : List (List UInt8)} (h : ∀ t ∈ l, Val t) : Val (joinC l) := by
  cases l with
  | nil => exact .nil
  | cons x l => exact (h x (by simp)).app (catC_val fun t ht => h t (by simp [ht]))
theorem val_text : ∀ (d : Nat) (x : JT), rightT d x = true → Val (textT d x)
  | 0, x, h => by cases h
  | d + 1, .mk k b i t l ks, h => by
    have ih := fun x hx => val_text d x hx
    by_cases e0 : k = 0
    · subst e0; exact Val.ascii (by show ∀ c ∈ nullS', c.toNat < 128; decide)
    by_cases e1 : k = 1
    · subst e1
      cases b
      · exact Val.ascii (by show ∀ c ∈ falseS', c.toNat < 128; decide)
      · exact Val.ascii (by show ∀ c ∈ trueS', c.toNat < 128; decide)
    by_cases e2 : k = 2
    · subst e2
      refine Val.ascii (l := Lib.itoa i) fun c hc => ?_
      unfold Lib.itoa at hc
      split at hc
      · rcases List.mem_cons.1 hc with rfl | hc
        · decide
        · have := dec_dig _ c hc; omega
      · have := dec_dig _ c hc; omega
    by_cases e3 : k = 3
    · subst e3
      have h : (bareB false false true false false b i t l.length ks.length && Lib.validD t) = true := h
      rw [Bool.and_eq_true, val_iff] at h
      exact h.2.quote
    by_cases e4 : k = 4
    · subst e4
      have h : (bareB false false false true false b i t l.length ks.length && l.all (rightT d)) = true := h
      rw [Bool.and_eq_true, List.all_eq_true] at h
      show Val ([91] ++ joinC (itemsT 4 ks (l.map (textT d)) l.length) ++ [93])
      rw [show l.length = (l.map (textT d)).length by simp, items4]
      refine Val.app (Val.app (Val.ascii (by decide)) (joinC_val fun t ht => ?_)) (Val.ascii (by decide))
      obtain ⟨x, hx, rfl⟩ := List.mem_map.1 ht
      exact ih x (h.2 x hx)
    by_cases e5 : k = 5
    · subst e5
      have h : (bareB false false false true true b i t l.length ks.length && decide ((ks.length : Int) = l.length) && distinctT ks && l.all (rightT d)) = true := h
      rw [Bool.and_eq_true, Bool.and_eq_true, Bool.and_eq_true, List.all_eq_true, decide_eq_true_eq] at h
      obtain ⟨⟨⟨h1, h2⟩, h3⟩, h4⟩ := h
      unfold distinctT at h3
      rw [Bool.and_eq_true, List.all_eq_true] at h3
      show Val ([123] ++ joinC (itemsT 5 ks (l.map (textT d)) l.length) ++ [125])
      rw [items5 _ _ _ (by omega)]
      refine Val.app (Val.app (Val.ascii (by decide)) (joinC_val fun t ht => ?_)) (Val.ascii (by decide))
      obtain ⟨p, hp, rfl⟩ := List.mem_map.1 ht
      have hm := List.of_mem_zip hp
      unfold kvT
      exact Val.app (Val.app ((val_iff _).1 (h3.1 _ hm.1)).quote (Val.ascii (by decide))) (ih _ (h4 _ hm.2))
    simp [rightT, e0, e1, e2, e3, e4, e5] at h
/-- What is printed is parsed as it was. -/
theorem parse_text {x : JT} (h : rightT 16 x = true) (hl : (textT 16 x).length ≤ 65536) : parseJ (textT 16 x) = (x, 0) := by
  have hr := (reads_text 16 x h).2 [] (fun c hc => by cases hc)
  rw [List.append_nil] at hr
  unfold parseJ
  rw [if_neg (by omega), of_val (val_text 16 x h), if_neg (by decide), hr]
  dsimp only
  rw [if_pos (show skipJ [] = [] from rfl)]
end Go.Proofs.YtkhgmmejgikgnaaDoor

/- Layer 6 (json), plain: what is parsed is right, and its text is not much longer than what it was parsed from. No program here. -/
namespace Go.Proofs.YtkhgmmejgikgnaaDoor
open Go.RowKit

theorem Val.tail {c : UInt8} {r : List UInt8} (h : Val (c :: r)) (hc : c.toNat < 128) : Val r := (Val.cut hc h (l := []) rfl).2
theorem Val.rest : ∀ {a b : List UInt8}, Val (a ++ b) → (∀ c ∈ a, c.toNat < 128) → Val b
  | [], _, h, _ => h
  | c :: _, _, h, ha => Val.rest (Val.tail h (ha c (by simp))) fun c hc => ha c (by simp [hc])
theorem tw_mem {p : UInt8 → Bool} {c : UInt8} : ∀ {l : List UInt8}, c ∈ l.takeWhile p → p c = true
  | [], h => by cases h
  | x :: l, h => by
    by_cases hp : p x = true
    · rw [List.takeWhile_cons_of_pos hp] at h
      rcases List.mem_cons.1 h with rfl | h
      · exact hp
      · exact tw_mem h
    · rw [List.takeWhile_cons_of_neg hp] at h
      cases h
theorem blank_asc (c : UInt8) (h : blankJ c = true) : c.toNat < 128 := by
  unfold blankJ at h
  simp at h
  omega
theorem skip_val {s : List UInt8} (h : Val s) : Val (skipJ s) ∧ (skipJ s).length ≤ s.length := by
  refine ⟨?_, skip_le s⟩
  have e : s = s.takeWhile blankJ ++ skipJ s := (List.takeWhile_append_dropWhile).symm
  rw [e] at h
  exact Val.rest h fun c hc => blank_asc c (tw_mem hc)

/-! ## Signs -/
theorem hexJ_asc {c : UInt8} {n : Nat} (h : hexJ c = some n) : c.toNat < 128 := by
  unfold hexJ at h
  split at h
  · omega
  split at h
  · omega
  split at h
  · omega
  cases h
theorem four_right {s r : List UInt8} {x : Nat} (h : fourJ s = some (x, r)) (hv : Val s) : Val r ∧ x < 65536 ∧ r.length + 4 = s.length := by
  unfold fourJ at h
  split at h
  · rename_i a b c d r1
    split at h
    · rename_i na nb nc nd ha hb hc hd
      simp only [Option.some.injEq, Prod.mk.injEq] at h
      obtain ⟨rfl, rfl⟩ := h
      have l1 := hexJ_lt ha
      have l2 := hexJ_lt hb
      have l3 := hexJ_lt hc
      have l4 := hexJ_lt hd
      refine ⟨Val.tail (Val.tail (Val.tail (Val.tail hv (hexJ_asc ha)) (hexJ_asc hb)) (hexJ_asc hc)) (hexJ_asc hd), by omega, by simp⟩
    · cases h
  · cases h
theorem char_right {s r t : List UInt8} (h : charJ s = some (t, r)) (hv : Val s) : Val t ∧ Val r ∧ t.length ≤ 4 ∧ r.length + 4 ≤ s.length := by
  unfold charJ at h
  split at h
  · cases h
  · rename_i x r1 h1
    obtain ⟨v1, k1, k2⟩ := four_right h1 hv
    split at h
    · rename_i hc
      split at h
      · rename_i y r2 h2
        have e : r1 = 92 :: 117 :: r1.drop 2 := by
          have := List.take_append_drop 2 r1
          rw [hc.2.2] at this
          exact this.symm
        rw [e] at v1
        have v2 := Val.tail (Val.tail v1 (by decide)) (by decide)
        obtain ⟨v3, k3, k4⟩ := four_right h2 v2
        rw [List.length_drop] at k4
        split at h
        · rename_i hy
          simp only [Option.some.injEq, Prod.mk.injEq] at h
          obtain ⟨rfl, rfl⟩ := h
          exact ⟨(enc_bytes (by omega)).val, v3, by have := rune_le (65536 + (x - 55296) * 1024 + (y - 56320)) (k := 1) (Nat.le_refl _); omega, by omega⟩
        · cases h
      · cases h
    · rename_i hc
      split at h
      · cases h
      · rename_i hs
        simp only [Option.some.injEq, Prod.mk.injEq] at h
        obtain ⟨rfl, rfl⟩ := h
        exact ⟨(enc_bytes (by omega)).val, v1, by have := rune_le x (k := 1) (Nat.le_refl _); omega, by omega⟩
theorem name_right {c : UInt8} {t : List UInt8} (h : nameJ c = some t) : c.toNat < 128 ∧ ∃ x : UInt8, t = [x] ∧ x.toNat < 128 := by
  unfold nameJ at h
  split at h
  · rename_i hc
    obtain rfl := (Option.some.inj h).symm
    exact ⟨by omega, c, rfl, by omega⟩
  all_goals repeat' split at h
  all_goals first
    | (obtain rfl := (Option.some.inj h).symm
       exact ⟨by omega, _, rfl, by decide⟩)
    | cases h
theorem esc_right {s r t : List UInt8} (h : escJ s = some (t, r)) (hv : Val s) : Val t ∧ Val r ∧ (signsT t).length + 6 * r.length ≤ 6 * s.length ∧ r.length < s.length := by
  unfold escJ at h
  split at h
  · cases h
  · rename_i c r0
    split at h
    · rename_i t1 ht
      simp only [Option.some.injEq, Prod.mk.injEq] at h
      obtain ⟨rfl, rfl⟩ := h
      obtain ⟨hc, x, rfl, hx⟩ := name_right ht
      have := signsT_len [x]
      exact ⟨Val.ascii fun c hc => by rw [List.mem_singleton.1 hc]; exact hx, Val.tail hv hc, by simp at this ⊢; omega, by simp⟩
    · split at h
      · rename_i hc
        obtain ⟨k1, k2, k3, k4⟩ := char_right h (Val.tail hv (by omega))
        have := signsT_len t
        exact ⟨k1, k2, by simp at k4 ⊢; omega, by simp; omega⟩
      · cases h
theorem sign_high {res : List UInt8 × List UInt8} {s : List UInt8} : ∀ {p : List UInt8} {f : Nat} {out : List UInt8}, (∀ c ∈ p, 128 ≤ c.toNat) → signJ f out (p ++ s) = some res → ∃ f', signJ f' (out ++ p) s = some res
  | [], f, out, _, h => ⟨f, by rw [List.append_nil]; exact h⟩
  | c :: p, 0, out, _, h => by cases h
  | c :: p, f + 1, out, hp, h => by
    have hc := hp c (by simp)
    rw [List.cons_append, signJ_step, if_neg (by omega), if_neg (by omega), if_neg (by omega)] at h
    obtain ⟨f', h'⟩ := sign_high (fun c hc => hp c (by simp [hc])) h
    exact ⟨f', by rw [List.append_assoc] at h'; exact h'⟩
theorem sign_right : ∀ (n : Nat) {s t r : List UInt8} {f : Nat} {out : List UInt8}, s.length ≤ n → Val s → signJ f out s = some (t, r) → ∃ u, t = out ++ u ∧ Val u ∧ Val r ∧ (signsT u).length + 6 * r.length + 6 ≤ 6 * s.length
  | 0, s, t, r, f, out, hn, _, h => by
    obtain rfl : s = [] := List.eq_nil_of_length_eq_zero (by omega)
    cases f <;> cases h
  | n + 1, s, t, r, f, out, hn, hv, h => by
    cases hv with
    | nil => cases f <;> cases h
    | cons hp hs =>
      rename_i p s'
      rcases hp.bytes with ⟨c, rfl, hc⟩ | hb
      · cases f with
        | zero => cases h
        | succ f =>
          rw [List.cons_append, List.nil_append, signJ_step] at h
          have hl : s'.length ≤ n := by simpa using hn
          split at h
          · cases h
          split at h
          · simp only [Option.some.injEq, Prod.mk.injEq] at h
            obtain ⟨rfl, rfl⟩ := h
            exact ⟨[], by simp, .nil, hs, by simp [signsT]; omega⟩
          split at h
          · split at h
            · cases h
            · rename_i t1 r1 he
              obtain ⟨k1, k2, k3, k4⟩ := esc_right he hs
              obtain ⟨u, rfl, h1, h2, h3⟩ := sign_right n (by omega) k2 h
              refine ⟨t1 ++ u, by rw [List.append_assoc], k1.app h1, h2, ?_⟩
              rw [signsT_app, List.length_append]
              simp; omega
          · obtain ⟨u, rfl, h1, h2, h3⟩ := sign_right n hl hs h
            have := escT_len c
            refine ⟨c :: u, by simp, .one hc h1, h2, ?_⟩
            show (escT c ++ signsT u).length + _ + _ ≤ _
            rw [List.length_append]
            simp; omega
      · obtain ⟨f', h'⟩ := sign_high hb h
        have hpl : 0 < p.length := List.length_pos_iff.2 hp.ne
        rw [List.length_append] at hn
        obtain ⟨u, rfl, h1, h2, h3⟩ := sign_right n (by omega) hs h'
        refine ⟨p ++ u, by rw [List.append_assoc], hp.val.app h1, h2, ?_⟩
        rw [signsT_app, signsT_high hb, List.length_append, List.length_append]; omega
theorem text_right {s t r : List UInt8} (h : textJ s = some (t, r)) (hv : Val s) : Val t ∧ Val r ∧ (quoteT t).length + 6 * r.length ≤ 6 * s.length := by
  unfold textJ at h
  split at h
  · cases h
  · rename_i c r0
    split at h
    · rename_i hc
      subst hc
      obtain ⟨u, rfl, h1, h2, h3⟩ := sign_right r0.length (Nat.le_refl _) (Val.tail hv (by decide)) h
      refine ⟨h1, h2, ?_⟩
      unfold quoteT
      simp; omega
    · cases h

/-! ## Numbers -/
theorem signs_pre (s : List UInt8) : s = signsJ s ++ s.drop (signsJ s).length ∧ ∀ c ∈ signsJ s, c.toNat < 128 := by
  have hd : ∀ {r : List UInt8}, ∀ c ∈ r.takeWhile digJ, c.toNat < 128 := fun c hc => by
    have := (digJ_iff c).1 (tw_mem hc); omega
  have ht : ∀ r : List UInt8, r = r.takeWhile digJ ++ r.drop (r.takeWhile digJ).length := fun r => by
    conv => lhs; rw [← List.take_append_drop (r.takeWhile digJ).length r]
    rw [← tw_take]
  unfold signsJ
  split
  · rename_i r
    refine ⟨?_, fun c hc => ?_⟩
    · show 45 :: r = 45 :: (r.takeWhile digJ ++ r.drop (r.takeWhile digJ).length)
      rw [← ht r]
    · rcases List.mem_cons.1 hc with rfl | hc
      · decide
      · exact hd c hc
  · exact ⟨ht s, hd⟩
theorem num_right {s r : List UInt8} {x : JT} (h : numJ s = some (x, r)) (hv : Val s) : ∃ v, x = .mk 2 false v [] [] [] ∧ -9007199254740992 ≤ v ∧ v ≤ 9007199254740992 ∧ Val r ∧ (Lib.itoa v).length + r.length ≤ s.length := by
  unfold numJ at h
  split at h
  · rename_i v hi
    simp only [Option.some.injEq, Prod.mk.injEq] at h
    obtain ⟨rfl, rfl⟩ := h
    obtain ⟨e, ha⟩ := signs_pre s
    unfold intJ at hi
    split at hi
    · split at hi
      · rename_i hc
        obtain rfl := Option.some.inj hi
        obtain ⟨c1, c2, c3⟩ := hc
        refine ⟨_, rfl, c2, c3, ?_, ?_⟩
        · rw [e] at hv; exact Val.rest hv ha
        · have := congrArg List.length e
          rw [List.length_append] at this
          rw [c1]; omega
      · cases hi
    · cases hi
  · cases h

/-! ## Lists, maps -/
theorem end_done {sign : UInt8} {first : Bool} {s : List UInt8} (h : endJ sign first s = some none) : skipJ s = sign :: (skipJ s).drop 1 := by
  unfold endJ at h
  split at h
  · rename_i e
    cases hs : skipJ s with
    | nil => rw [hs] at e; cases e
    | cons c r => rw [hs] at e; obtain rfl : c = sign := by simpa using e
                  rfl
  · repeat' split at h
    all_goals cases h
theorem end_more {sign : UInt8} {first : Bool} {s r : List UInt8} (h : endJ sign first s = some (some r)) : first = true ∧ r = skipJ s ∨ first = false ∧ skipJ s = 44 :: r := by
  unfold endJ at h
  split at h
  · cases h
  · split at h
    · rename_i hf
      exact .inl ⟨hf, (Option.some.inj (Option.some.inj h)).symm⟩
    · rename_i hf
      split at h
      · rename_i e
        obtain rfl := Option.some.inj (Option.some.inj h)
        refine .inr ⟨by simpa using hf, ?_⟩
        cases hs : skipJ s with
        | nil => rw [hs] at e; cases e
        | cons c r => rw [hs] at e; obtain rfl : c = 44 := by simpa using e
                      rfl
      · cases h
def RightV (d : Nat) (val : List UInt8 → Option (JT × List UInt8)) : Prop := ∀ s x r, val s = some (x, r) → Val s → rightT d x = true ∧ Val r ∧ (textT d x).length + 6 * r.length ≤ 6 * s.length
/-- Where the next part begins, and how much of the text is spent. -/
theorem end_val {sign : UInt8} {α : Type} {acc : List α} {s r : List UInt8} (h : endJ sign acc.isEmpty s = some (some r)) (hv : Val s) : Val r ∧ 6 * r.length + 1 ≤ 6 * s.length + (if acc = [] then 1 else 0) := by
  obtain ⟨v1, k1⟩ := skip_val hv
  rcases end_more h with ⟨hf, rfl⟩ | ⟨hf, e⟩
  · have : acc = [] := by simpa using hf
    rw [if_pos this]
    exact ⟨v1, by omega⟩
  · have : acc ≠ [] := by simpa using hf
    rw [if_neg this]
    rw [e] at v1 k1
    exact ⟨Val.tail v1 (by decide), by simp at k1; omega⟩
theorem end_close {sign : UInt8} {first : Bool} {s : List UInt8} (hs : sign = 93 ∨ sign = 125) (h : endJ sign first s = some none) (hv : Val s) : Val ((skipJ s).drop 1) ∧ 6 * ((skipJ s).drop 1).length + 6 ≤ 6 * s.length := by
  obtain ⟨v1, k1⟩ := skip_val hv
  have e := end_done h
  have hl := congrArg List.length e
  rw [List.length_cons] at hl
  rw [e] at v1
  exact ⟨Val.tail v1 (by rcases hs with rfl | rfl <;> decide), by omega⟩
theorem list_right {d : Nat} {val : List UInt8 → Option (JT × List UInt8)} (hval : RightV d val) : ∀ (f : Nat) (acc : List JT) (s : List UInt8) (x : JT) (r : List UInt8), listJ val f acc s = some (x, r) → Val s →
    ∃ l, x = .mk 4 false 0 [] (acc ++ l) [] ∧ (∀ y ∈ l, rightT d y = true) ∧ Val r ∧ (catC (l.map (textT d))).length + 6 * r.length + 6 ≤ 6 * s.length + (if acc = [] then 1 else 0)
  | 0, _, _, _, _, h, _ => by cases h
  | f + 1, acc, s, x, r, h, hv => by
    unfold listJ at h
    split at h
    · cases h
    · rename_i he
      simp only [Option.some.injEq, Prod.mk.injEq] at h
      obtain ⟨rfl, rfl⟩ := h
      obtain ⟨v1, k1⟩ := end_close (.inl rfl) he hv
      refine ⟨[], by simp, fun y hy => (by cases hy), v1, ?_⟩
      show 0 + _ + 6 ≤ _
      omega
    · rename_i r1 he
      obtain ⟨v1, k1⟩ := end_val he hv
      split at h
      · cases h
      · rename_i y r2 hy
        obtain ⟨g1, g2, g3⟩ := hval _ _ _ hy v1
        obtain ⟨l, rfl, h1, h2, h3⟩ := list_right hval f _ _ _ _ h g2
        rw [if_neg (by simp)] at h3
        refine ⟨y :: l, by simp, fun z hz => ?_, h2, ?_⟩
        · rcases List.mem_cons.1 hz with rfl | hz
          · exact g1
          · exact h1 z hz
        · show (44 :: (textT d y ++ catC (l.map (textT d)))).length + _ + _ ≤ _
          rw [List.length_cons, List.length_append]; omega
theorem key_right {keys : List (List UInt8)} {s k r : List UInt8} (h : keyJ keys s = some (k, r)) (hv : Val s) : k ∉ keys ∧ Val k ∧ Val r ∧ (quoteT k).length + 6 * r.length + 6 ≤ 6 * s.length := by
  obtain ⟨v1, k1⟩ := skip_val hv
  unfold keyJ at h
  split at h
  · cases h
  · rename_i k' r0 ht
    obtain ⟨t1, t2, t3⟩ := text_right ht v1
    obtain ⟨v2, k2⟩ := skip_val t2
    split at h
    · rename_i hc
      simp only [Option.some.injEq, Prod.mk.injEq] at h
      obtain ⟨rfl, rfl⟩ := h
      cases hs : skipJ r0 with
      | nil => rw [hs] at hc; cases hc.1
      | cons c q =>
        rw [hs] at hc v2 k2
        obtain rfl : c = 58 := by simpa using hc.1
        refine ⟨hc.2, t1, Val.tail v2 (by decide), ?_⟩
        simp at k2 ⊢; omega
    · cases h
theorem table_right {d : Nat} {val : List UInt8 → Option (JT × List UInt8)} (hval : RightV d val) : ∀ (f : Nat) (keys : List (List UInt8)) (acc : List JT) (s : List UInt8) (x : JT) (r : List UInt8), tableJ val f keys acc s = some (x, r) → Val s → keys.Nodup →
    ∃ l : List (List UInt8 × JT), x = .mk 5 false 0 [] (acc ++ l.map Prod.snd) (keys ++ l.map Prod.fst) ∧ (∀ y ∈ l, rightT d y.2 = true ∧ Val y.1) ∧ (keys ++ l.map Prod.fst).Nodup ∧ Val r ∧ (catC (l.map (kvT (textT d)))).length + 6 * r.length + 6 ≤ 6 * s.length + (if acc = [] then 1 else 0)
  | 0, _, _, _, _, _, h, _, _ => by cases h
  | f + 1, keys, acc, s, x, r, h, hv, hn => by
    unfold tableJ at h
    split at h
    · cases h
    · rename_i he
      simp only [Option.some.injEq, Prod.mk.injEq] at h
      obtain ⟨rfl, rfl⟩ := h
      obtain ⟨v1, k1⟩ := end_close (.inr rfl) he hv
      refine ⟨[], by simp, fun y hy => (by cases hy), by simpa using hn, v1, ?_⟩
      show 0 + _ + 6 ≤ _
      omega
    · rename_i r1 he
      obtain ⟨v1, k1⟩ := end_val he hv
      split at h
      · cases h
      · rename_i k r2 hk
        obtain ⟨q1, q2, q3, q4⟩ := key_right hk v1
        split at h
        · cases h
        · rename_i y r3 hy
          obtain ⟨g1, g2, g3⟩ := hval _ _ _ hy q3
          have hn2 : (keys ++ [k]).Nodup := by
            rw [List.nodup_append]
            exact ⟨hn, by simp, fun a ha b hb => by rw [List.mem_singleton.1 hb]; rintro rfl; exact q1 ha⟩
          obtain ⟨l, rfl, h1, h1n, h2, h3⟩ := table_right hval f _ _ _ _ _ h g2 hn2
          rw [if_neg (by simp)] at h3
          refine ⟨(k, y) :: l, by simp, fun z hz => ?_, by simpa using h1n, h2, ?_⟩
          · rcases List.mem_cons.1 hz with rfl | hz
            · exact ⟨g1, q2⟩
            · exact h1 z hz
          · show (44 :: (kvT (textT d) (k, y) ++ catC (l.map (kvT (textT d))))).length + _ + _ ≤ _
            unfold kvT at h3 ⊢
            simp only [List.length_cons, List.length_append, List.length_nil] at h3 ⊢; omega
theorem zip_pairs {α β : Type} : ∀ l : List (α × β), (l.map Prod.fst).zip (l.map Prod.snd) = l
  | [] => rfl
  | (a, b) :: l => by simp [zip_pairs l]
theorem joinC_catC (l : List (List UInt8)) : (joinC l).length ≤ (catC l).length ∧ (l ≠ [] → (joinC l).length + 1 ≤ (catC l).length) := by
  unfold joinC
  rw [List.length_drop]
  refine ⟨by omega, fun h => ?_⟩
  cases l with
  | nil => exact absurd rfl h
  | cons x l => show _ ≤ (44 :: (x ++ catC l)).length; simp [catC]
theorem right_bare0 (d : Nat) : rightT (d + 1) nullT = true := rfl
theorem value_right : ∀ d : Nat, RightV d (valueJ d)
  | 0 => fun s x r h _ => by cases h
  | d + 1 => fun s x r h hv => by
    have ih := value_right d
    obtain ⟨v1, k1⟩ := skip_val hv
    have h : valueB (valueJ d) (skipJ s) = some (x, r) := h
    generalize skipJ s = q at h v1 k1
    suffices hh : rightT (d + 1) x = true ∧ Val r ∧ (textT (d + 1) x).length + 6 * r.length ≤ 6 * q.length from ⟨hh.1, hh.2.1, by omega⟩
    clear hv
    have hdrop : ∀ (n : Nat) (w : List UInt8), q.take n = w → w.length = n → (∀ c ∈ w, c.toNat < 128) → Val (q.drop n) ∧ (q.drop n).length + n = q.length := fun n w hw hl ha => by
      have e := List.take_append_drop n q
      rw [hw] at e
      have hv := v1
      rw [← e] at hv
      have := congrArg List.length e
      rw [List.length_append, hl] at this
      exact ⟨Val.rest hv ha, by omega⟩
    unfold valueB at h
    split at h
    · cases h
    · rename_i c q'
      split at h
      · rename_i hw
        simp only [Option.some.injEq, Prod.mk.injEq] at h
        obtain ⟨rfl, rfl⟩ := h
        obtain ⟨g1, g2⟩ := hdrop 4 nullS' hw rfl (by decide)
        exact ⟨rfl, g1, by show 4 + _ ≤ _; omega⟩
      split at h
      · rename_i hw
        simp only [Option.some.injEq, Prod.mk.injEq] at h
        obtain ⟨rfl, rfl⟩ := h
        obtain ⟨g1, g2⟩ := hdrop 4 trueS' hw rfl (by decide)
        exact ⟨rfl, g1, by show 4 + _ ≤ _; omega⟩
      split at h
      · rename_i hw
        simp only [Option.some.injEq, Prod.mk.injEq] at h
        obtain ⟨rfl, rfl⟩ := h
        obtain ⟨g1, g2⟩ := hdrop 5 falseS' hw rfl (by decide)
        exact ⟨rfl, g1, by show 5 + _ ≤ _; omega⟩
      split at h
      · split at h
        · rename_i t r' ht
          simp only [Option.some.injEq, Prod.mk.injEq] at h
          obtain ⟨rfl, rfl⟩ := h
          obtain ⟨t1, t2, t3⟩ := text_right ht v1
          refine ⟨?_, t2, t3⟩
          show (bareB false false true false false false 0 t 0 0 && Lib.validD t) = true
          rw [of_val t1]; (first | done | rfl)
        · cases h
      split at h
      · rename_i hc
        subst hc
        obtain ⟨l, rfl, h1, h2, h3⟩ := list_right ih _ _ _ _ _ h (Val.tail v1 (by decide))
        rw [if_pos rfl] at h3
        refine ⟨?_, h2, ?_⟩
        · show (bareB false false false true false false 0 [] ([] ++ l).length 0 && ([] ++ l).all (rightT d)) = true
          rw [List.nil_append, List.all_eq_true.2 h1]; (first | done | rfl)
        · show ([91] ++ joinC (itemsT 4 [] (([] ++ l).map (textT d)) ([] ++ l).length) ++ [93] : List UInt8).length + _ ≤ _
          rw [List.nil_append, show l.length = (l.map (textT d)).length by simp, items4]
          obtain ⟨j1, j2⟩ := joinC_catC (l.map (textT d))
          simp only [List.length_append, List.length_cons, List.length_nil]
          omega
      split at h
      · rename_i hc
        subst hc
        obtain ⟨l, rfl, h1, h1n, h2, h3⟩ := table_right ih _ _ _ _ _ _ h (Val.tail v1 (by decide)) (by simp)
        rw [if_pos rfl] at h3
        rw [List.nil_append] at h1n
        refine ⟨?_, h2, ?_⟩
        · show (bareB false false false true true false 0 [] ([] ++ l.map Prod.snd).length ([] ++ l.map Prod.fst).length && decide ((([] ++ l.map Prod.fst).length : Int) = ([] ++ l.map Prod.snd).length) && distinctT ([] ++ l.map Prod.fst) && ([] ++ l.map Prod.snd).all (rightT d)) = true
          have hd : distinctT (l.map Prod.fst) = true := by
            unfold distinctT
            rw [Bool.and_eq_true, decide_eq_true_eq, List.all_eq_true]
            refine ⟨fun k hk => ?_, h1n⟩
            obtain ⟨p, hp, rfl⟩ := List.mem_map.1 hk
            exact of_val (h1 p hp).2
          have ha : (l.map Prod.snd).all (rightT d) = true := List.all_eq_true.2 fun y hy => by
            obtain ⟨p, hp, rfl⟩ := List.mem_map.1 hy
            exact (h1 p hp).1
          rw [List.nil_append, List.nil_append, hd, ha]
          simp [bareB]
        · show ([123] ++ joinC (itemsT 5 ([] ++ l.map Prod.fst) (([] ++ l.map Prod.snd).map (textT d)) ([] ++ l.map Prod.snd).length) ++ [125] : List UInt8).length + _ ≤ _
          rw [List.nil_append, List.nil_append, items5 _ _ _ (by simp), zip_pairs]
          obtain ⟨j1, j2⟩ := joinC_catC (l.map (kvT (textT d)))
          simp only [List.length_append, List.length_cons, List.length_nil]
          omega
      · obtain ⟨v, rfl, n1, n2, n3, n4⟩ := num_right h v1
        refine ⟨?_, n3, ?_⟩
        · show (bareB false true false false false false v [] 0 0 && (decide (-9007199254740992 ≤ v) && decide (v ≤ 9007199254740992))) = true
          rw [decide_eq_true n1, decide_eq_true n2]; (first | done | rfl)
        · show (Lib.itoa v).length + _ ≤ _
          omega
theorem parse_right {s : List UInt8} {x : JT} (h : parseJ s = (x, 0)) : rightT 16 x = true ∧ (textT 16 x).length ≤ 6 * s.length := by
  unfold parseJ at h
  split at h
  · cases h
  · split at h
    · cases h
    · rename_i hv
      split at h
      · rename_i v r hval
        split at h
        · obtain rfl : v = x := congrArg Prod.fst h
          have hv : Val s := (val_iff s).1 (by simpa using hv)
          obtain ⟨h1, _, h3⟩ := value_right 16 s _ r hval hv
          exact ⟨h1, by omega⟩
        · cases h
      · cases h
theorem parse_null {s : List UInt8} (h : (parseJ s).2 ≠ 0) : (parseJ s).1 = nullT := by
  unfold parseJ at h ⊢
  split
  · rfl
  · rename_i h1
    rw [if_neg h1] at h
    split
    · rfl
    · rename_i h2
      rw [if_neg h2] at h
      split
      · rename_i v r hval
        rw [hval] at h
        dsimp only at h
        split
        · rename_i h3
          rw [if_pos h3] at h
          exact absurd rfl h
        · rfl
      · rfl

/-! ## Sizes -/
theorem mem_catC {l : List (List UInt8)} {t : List UInt8} (h : t ∈ l) : t.length + 1 ≤ (catC l).length := by
  induction l with
  | nil => cases h
  | cons x l ih =>
    show _ ≤ (44 :: (x ++ catC l)).length
    rcases List.mem_cons.1 h with rfl | h
    · simp
    · have := ih h
      simp; omega
theorem mem_joinC {l : List (List UInt8)} {t : List UInt8} (h : t ∈ l) : t.length ≤ (joinC l).length := by
  have := mem_catC h
  unfold joinC
  rw [List.length_drop]; omega
theorem sm_of : ∀ (d : Nat) (x : JT), rightT d x = true → (textT d x).length ≤ 1000000 → Sm x
  | 0, x, h, _ => by cases h
  | d + 1, .mk k b i t l ks, h, hl => by
    have ih := fun x hx => sm_of d x hx
    by_cases e0 : k = 0
    · subst e0
      obtain ⟨b1, b2, b3, b4, b5⟩ := bare_of (show bareB false false false false false b i t l.length ks.length = true from h)
      simp at b1 b2 b3 b4 b5
      subst b1 b2 b3 b4 b5
      exact .mk (by decide) (by decide) (fun _ h => by cases h) (by decide) (fun _ h => by cases h)
    by_cases e1 : k = 1
    · subst e1
      obtain ⟨_, b2, b3, b4, b5⟩ := bare_of (show bareB true false false false false b i t l.length ks.length = true from h)
      simp at b2 b3 b4 b5
      subst b2 b3 b4 b5
      exact .mk (by decide) (by decide) (fun _ h => by cases h) (by decide) (fun _ h => by cases h)
    by_cases e2 : k = 2
    · subst e2
      have h : (bareB false true false false false b i t l.length ks.length && (decide (-9007199254740992 ≤ i) && decide (i ≤ 9007199254740992))) = true := h
      rw [Bool.and_eq_true] at h
      obtain ⟨b1, _, b3, b4, b5⟩ := bare_of h.1
      simp at b1 b3 b4 b5
      subst b1 b3 b4 b5
      exact .mk (by decide) (by decide) (fun _ h => by cases h) (by decide) (fun _ h => by cases h)
    by_cases e3 : k = 3
    · subst e3
      have h : (bareB false false true false false b i t l.length ks.length && Lib.validD t) = true := h
      rw [Bool.and_eq_true] at h
      obtain ⟨b1, b2, _, b4, b5⟩ := bare_of h.1
      simp at b1 b2 b4 b5
      subst b1 b2 b4 b5
      have hl : (quoteT t).length ≤ 1000000 := hl
      have := signsT_ge t
      unfold quoteT at hl
      simp at hl
      exact .mk (by omega) (by decide) (fun _ h => by cases h) (by decide) (fun _ h => by cases h)
    by_cases e4 : k = 4
    · subst e4
      have h : (bareB false false false true false b i t l.length ks.length && l.all (rightT d)) = true := h
      rw [Bool.and_eq_true, List.all_eq_true] at h
      obtain ⟨b1, b2, b3, _, b5⟩ := bare_of h.1
      simp at b1 b2 b3 b5
      subst b1 b2 b3 b5
      have hl : ([91] ++ joinC (itemsT 4 [] (l.map (textT d)) l.length) ++ [93]).length ≤ 1000000 := hl
      rw [show l.length = (l.map (textT d)).length by simp, items4] at hl
      have hj := joinC_len (l.map (textT d)) (fun t ht => by
        obtain ⟨x, hx', rfl⟩ := List.mem_map.1 ht
        exact textT_ne (h.2 x hx'))
      simp only [List.length_append, List.length_cons, List.length_nil, List.length_map] at hl hj
      refine .mk (by decide) (by decide) (fun _ h => by cases h) (by omega) (fun x hx => ih x (h.2 x hx) ?_)
      have := mem_joinC (List.mem_map_of_mem (f := textT d) hx)
      omega
    by_cases e5 : k = 5
    · subst e5
      have h : (bareB false false false true true b i t l.length ks.length && decide ((ks.length : Int) = l.length) && distinctT ks && l.all (rightT d)) = true := h
      rw [Bool.and_eq_true, Bool.and_eq_true, Bool.and_eq_true, List.all_eq_true, decide_eq_true_eq] at h
      obtain ⟨⟨⟨h1, h2⟩, h3⟩, h4⟩ := h
      obtain ⟨b1, b2, b3, _, _⟩ := bare_of h1
      simp at b1 b2 b3
      subst b1 b2 b3
      have hl : ([123] ++ joinC (itemsT 5 ks (l.map (textT d)) l.length) ++ [125]).length ≤ 1000000 := hl
      rw [items5 _ _ _ (by omega)] at hl
      have hj := joinC_len ((ks.zip l).map (kvT (textT d))) (fun t ht => by
        obtain ⟨x, _, rfl⟩ := List.mem_map.1 ht
        obtain ⟨c, r, e, _⟩ := kvT_head (textT d) x
        rw [e]; simp)
      have hm : ∀ p ∈ ks.zip l, (kvT (textT d) p).length ≤ 1000000 := fun p hp => by
        have := mem_joinC (List.mem_map_of_mem (f := kvT (textT d)) hp)
        simp only [List.length_append] at hl
        omega
      simp only [List.length_append, List.length_cons, List.length_nil, List.length_map, List.length_zip] at hl hj
      have hp : ∀ p ∈ ks.zip l, p.1.length ≤ 1000000 ∧ (textT d p.2).length ≤ 1000000 := fun p hp => by
        have := hm p hp
        have hs := signsT_ge p.1
        unfold kvT quoteT at this
        simp at this
        omega
      refine .mk (by decide) (by omega) (fun k hk => ?_) (by omega) (fun x hx => ih x (h4 x hx) ?_)
      · obtain ⟨i, hi⟩ := List.getElem?_of_mem hk
        have hil := (List.getElem?_eq_some_iff.1 hi).1
        have hz : (k, l[i]'(by omega)) ∈ ks.zip l := by
          refine List.mem_of_getElem? (i := i) ?_
          rw [List.getElem?_zip_eq_some]
          exact ⟨hi, List.getElem?_eq_getElem (by omega)⟩
        exact (hp _ hz).1
      · obtain ⟨i, hi⟩ := List.getElem?_of_mem hx
        have hil := (List.getElem?_eq_some_iff.1 hi).1
        have hz : (ks[i]'(by omega), x) ∈ ks.zip l := by
          refine List.mem_of_getElem? (i := i) ?_
          rw [List.getElem?_zip_eq_some]
          exact ⟨List.getElem?_eq_getElem (by omega), hi⟩
        exact (hp _ hz).2
    simp [rightT, e0, e1, e2, e3, e4, e5] at h
end Go.Proofs.YtkhgmmejgikgnaaDoor

/- Layer 6 (json), walked: small values, values that are the same; JsonBack. -/
namespace Go.Proofs.YtkhgmmejgikgnaaDoor
open Go.RowKit

theorem imax {n c : Nat} (h1 : n ≤ c) (h2 : c ≤ maxLen) : n ≤ 9223372036854775807 := Nat.le_trans h1 h2
/-! ## Small -/
structure OSt where
  i : Nat
  A : Option Addr
  c : Nat
  l : List (List UInt8)
set_option maxHeartbeats 8000000 in
theorem jtexts_x (ks : List (List UInt8)) (u : Value) (W : PW) (hu : RP sC W u ks) : CallsX Tryd.prog 90 ⟨[u, .int .i64 6, .int .i64 20]⟩ [] W fun v W' => RP sC W' v ((ks.take 6).map (·.take 20)) := by
  have hmax : (100000000 : Nat) ≤ maxLen := by decide
  obtain ⟨A0, c0, rfl, k1, k2⟩ := hu.form
  have hml := imax k1 k2
  refine pureNX hmix Tryd.func90 r90 (by kernel_rfl) [nilO 9 1] rfl [.slice A0 ks.length c0, .int .i64 6, .int .i64 20] rfl ?_
  refine ⟨OSt, fun t => [(7, .v (.slice t.A t.l.length t.c)), (8, .v (.int .i64 t.i))], fun _ => [], fun t => [strO (.slice t.A t.l.length t.c) t.l], fun t _ => t.i ≤ ks.length ∧ t.i ≤ 6 ∧ t.l = (ks.take t.i).map (·.take 20), fun t => ks.length - t.i, ⟨0, none, 0, []⟩,
    all_sl ⟨rfl, rfl, trivial⟩, rfl, ole_refl _, ⟨Nat.zero_le _, Nat.zero_le _, rfl⟩, loopOK (fun _ => ⟨⟨trivial, rfl⟩, ⟨trivial, rfl⟩, trivial⟩) (fun _ => rfl) (fun _ => rfl), ?_⟩
  rintro ⟨i, A, c, l⟩ W1 l1 ⟨hi, hi6, hl⟩ fr
  dsimp only at hi hi6 hl
  have hll : l.length ≤ 6 := by rw [hl, List.length_map, List.length_take]; omega
  have hend : (i = ks.length ∨ i = 6) → (ks.take 6).map (·.take 20) = l := fun h => by
    rw [hl]
    rcases h with h | h
    · rw [List.take_of_length_le (by omega), List.take_of_length_le (by omega)]
    · rw [h]
  refine ⟨rfl, br_split (fun hq => ?_) (fun hq => ?_)⟩
  · have hq : (i : Int) < ks.length := hq
    refine ⟨rfl, br_split (fun h6 => ?_) (fun h6 => ?_)⟩
    · have h6 : (i : Int) < 6 := h6
      have inc := (i64_in ((i : Int) + 1) ⟨by omega, by omega⟩).symm
      obtain ⟨a, rfl, x, hx, _, hr, _⟩ := RP.at (f := sC) (fun _ => rfl) hu l1 (j := (i : Int)) ⟨by omega, by omega⟩
      have hx : ks[i]? = some x := hx
      refine ⟨⟨by omega, by show (i : Int) < ks.length; omega⟩, _, rfl, strV x, (hr (by decide) _ rfl).o, ?_⟩
      refine call_v rfl (fun W' _ => short_x x 20 W') (fun W2 v W3 l2 l3 hv => ?_)
      subst hv
      refine ⟨rfl, .inl fun bd Wd ld hrd => ⟨0, _, [strV (x.take 20)], rfl, rfl, rfl, rfl, rfl, one_str _, fun _ => ⟨_, rfl, hrd.o⟩, by show l.length + 1 ≤ maxLen; omega, by show (l.length + 1) * 16 ≤ 140737488355328; omega, rfl, @fun Ae ce _ => ?_⟩⟩
      refine ⟨rfl, _, inc, ⟨i + 1, Ae, ce, l ++ [x.take 20]⟩, all_sl ⟨?_, rfl, trivial⟩, rfl, ole_eq ?_, ⟨by dsimp only; omega, by dsimp only; omega, ?_⟩, by dsimp only; omega⟩
      · dsimp only; rw [List.length_append]; (first | done | rfl)
      · exact congrArg (fun o => [o]) (str_snoc Ae ce l (x.take 20))
      · dsimp only; rw [hl, List.take_add_one (i := i) (l := ks), hx, List.map_append]; (first | done | rfl)
    · have h6 : ¬ (i : Int) < 6 := h6
      have he := hend (.inr (by omega))
      refine RetVC.freeze (fun _ hb => hb) (i := 0) rfl fun Wm lm hs0 => ?_
      exact ret_plain rfl fun W' l' => by rw [he]; exact SlRead.mono hs0 l'
  · have hq : ¬ (i : Int) < ks.length := hq
    have he := hend (.inl (by omega))
    refine RetVC.freeze (fun _ hb => hb) (i := 0) rfl fun Wm lm hs0 => ?_
    exact ret_plain rfl fun W' l' => by rw [he]; exact SlRead.mono hs0 l'
def smallT : Nat → JT → JT
  | 0, .mk k b i t _ ks => .mk k b i (t.take 60) [] ((ks.take 6).map (·.take 20))
  | d + 1, .mk k b i t l ks => .mk k b i (t.take 60) ((l.take 6).map (smallT d)) ((ks.take 6).map (·.take 20))
structure NSt where
  i : Nat
  A : Option Addr
  c : Nat
  l : List JV
theorem ers_take (l : List JV) (n : Nat) : JV.ers (l.take n) = (JV.ers l).take n := by rw [ers_map, ers_map, List.map_take]
def SmallX (d : Nat) : Prop := ∀ (x : JV) (W : PW), JOK W x → CallsX Tryd.prog 49 ⟨[.agg ⟨x.cells⟩, .int .i64 (d : Nat)]⟩ [] W fun v W' => ∃ y : JV, JOK W' y ∧ v = .agg ⟨y.cells⟩ ∧ y.er = smallT d x.er
set_option maxRecDepth 20000 in
set_option maxHeartbeats 16000000 in
theorem jsmall_x : ∀ d : Nat, d ≤ 100 → SmallX d
  | 0, _ => fun x W hx => by
    obtain ⟨xk, xb, xi, xt, xA, xl, xc, xA', xks, xc', rfl, k1, k2, _⟩ := hx.form
    have hml := imax k1 k2
    cases hx with
    | mk h1 h2 h3 =>
    refine pureNX hmix Tryd.func49 r49 (by kernel_rfl) [nilO 77 6] rfl [.agg ⟨(JV.mk xk xb xi xt (.slice xA xl.length xc) xl (.slice xA' xks.length xc') xks).cells⟩, .int .i64 ((0 : Nat) : Int)] rfl ?_
    refine call_v rfl (fun W' _ => short_x xt 60 W') (fun W2 v W3 l2 l3 hv => ?_)
    subst hv
    refine call_v rfl (fun W' lw => jtexts_x xks _ W' (h2.mono (l2.trans (l3.trans lw)))) (fun W4 v W5 l4 l5 hv => ?_)
    obtain ⟨A2, c2, rfl, _, _⟩ := hv.form
    refine ⟨Unit, fun _ => [(5, .v (.slice none 0 0)), (6, .v (.int .i64 0))], fun _ => [[.v (.int .i64 xk), .v (.bool xb), .v (.int .i64 xi), .v (strV (xt.take 60)), .v (.slice xA xl.length xc), .v (.slice A2 ((xks.take 6).map (·.take 20)).length c2)], [.v (.int .i64 0), .v (.bool false), .v (.int .i64 0), .v (strV []), .v nilU, .v nilU]], fun _ => [nilO 77 6], fun _ _ => True, fun _ => 0, (),
      all_sl ⟨rfl, rfl, trivial⟩, rfl, ole_refl _, trivial, loopOK (fun _ => ⟨⟨trivial, rfl⟩, ⟨trivial, rfl⟩, trivial⟩) (fun _ => rfl) (fun _ => rfl), ?_⟩
    intro _ W6 l6 _ fr
    have hfin : ∀ W', W5.Le W' → ∃ y : JV, JOK W' y ∧ (Value.agg ⟨[.int .i64 xk, .bool xb, .int .i64 xi, strV (xt.take 60), .slice none 0 0, .slice A2 ((xks.take 6).map (·.take 20)).length c2]⟩) = .agg ⟨y.cells⟩ ∧ y.er = smallT 0 (.mk xk xb xi xt (JV.ers xl) xks) := fun W' lw =>
      ⟨.mk xk xb xi (xt.take 60) nilU [] (.slice A2 ((xks.take 6).map (·.take 20)).length c2) ((xks.take 6).map (·.take 20)), .mk (RP.nil _ _) (hv.mono lw) (fun x h => by cases h), rfl, rfl⟩
    refine ⟨rfl, br_split (fun hq => ?_) (fun hq => ?_)⟩
    · exact ⟨rfl, rfl, ret_plain rfl fun W' lw => hfin W' (l6.trans lw)⟩
    · exact ret_plain rfl fun W' lw => hfin W' (l6.trans lw)
  | d + 1, hd => fun x W hx => by
    have hmax : (100000000 : Nat) ≤ maxLen := by decide
    have ih := jsmall_x d (by omega)
    obtain ⟨xk, xb, xi, xt, xA, xl, xc, xA', xks, xc', rfl, k1, k2, _⟩ := hx.form
    have hml := imax k1 k2
    cases hx with
    | mk h1 h2 h3 =>
    obtain ⟨z, hz⟩ : ∃ z : Int, z = ((d + 1 : Nat) : Int) := ⟨_, rfl⟩
    rw [← hz]
    refine pureNX hmix Tryd.func49 r49 (by kernel_rfl) [nilO 77 6] rfl [.agg ⟨(JV.mk xk xb xi xt (.slice xA xl.length xc) xl (.slice xA' xks.length xc') xks).cells⟩, .int .i64 z] rfl ?_
    refine call_v rfl (fun W' _ => short_x xt 60 W') (fun W2 v W3 l2 l3 hv => ?_)
    subst hv
    refine call_v rfl (fun W' lw => jtexts_x xks _ W' (h2.mono (l2.trans (l3.trans lw)))) (fun W4 v W5 l4 l5 hv => ?_)
    obtain ⟨A2, c2, rfl, _, _⟩ := hv.form
    have lA := l2.trans (l3.trans (l4.trans l5))
    refine ⟨NSt, fun t => [(5, .v (.slice t.A t.l.length t.c)), (6, .v (.int .i64 t.i))], fun _ => [[.v (.int .i64 xk), .v (.bool xb), .v (.int .i64 xi), .v (strV (xt.take 60)), .v (.slice xA xl.length xc), .v (.slice A2 ((xks.take 6).map (·.take 20)).length c2)], [.v (.int .i64 0), .v (.bool false), .v (.int .i64 0), .v (strV []), .v nilU, .v nilU]], fun t => [jlO t.A t.c t.l],
      fun t W' => t.i ≤ xl.length ∧ t.i ≤ 6 ∧ t.l.length = t.i ∧ (∀ y ∈ t.l, JOK W' y) ∧ JV.ers t.l = ((JV.ers xl).take t.i).map (smallT d), fun t => xl.length - t.i, ⟨0, none, 0, []⟩,
      all_sl ⟨rfl, rfl, trivial⟩, rfl, ole_refl _, ⟨Nat.zero_le _, Nat.zero_le _, rfl, (fun y h => by cases h), rfl⟩, loopOK (fun _ => ⟨⟨trivial, rfl⟩, ⟨trivial, rfl⟩, trivial⟩) (fun _ => rfl) (fun _ => rfl), ?_⟩
    rintro ⟨i, A, c, l⟩ W6 l6 ⟨hi, hi6, hll, hok, her⟩ fr
    dsimp only at hi hi6 hll hok her
    have hfin : (i = xl.length ∨ i = 6) → ∀ W', W6.Le W' → SlRead W' (.slice A l.length c) l.length (l.map JV.cells).flatten → ∃ y : JV, JOK W' y ∧ (Value.agg ⟨[.int .i64 xk, .bool xb, .int .i64 xi, strV (xt.take 60), .slice A l.length c, .slice A2 ((xks.take 6).map (·.take 20)).length c2]⟩) = .agg ⟨y.cells⟩ ∧ y.er = smallT (d + 1) (.mk xk xb xi xt (JV.ers xl) xks) := fun hh W' lw hs => by
      refine ⟨.mk xk xb xi (xt.take 60) (.slice A l.length c) l (.slice A2 ((xks.take 6).map (·.take 20)).length c2) ((xks.take 6).map (·.take 20)), .mk hs (hv.mono (l6.trans lw)) (fun y hy => (hok y hy).mono lw), rfl, ?_⟩
      show JT.mk xk xb xi (xt.take 60) (JV.ers l) ((xks.take 6).map (·.take 20)) = .mk xk xb xi (xt.take 60) (((JV.ers xl).take 6).map (smallT d)) ((xks.take 6).map (·.take 20))
      rw [her]
      rcases hh with hh | hh
      · rw [List.take_of_length_le (i := i) (l := JV.ers xl) (by rw [ers_map, List.length_map]; omega), List.take_of_length_le (i := 6) (l := JV.ers xl) (by rw [ers_map, List.length_map]; omega)]
      · rw [hh]
    refine ⟨rfl, br_split (fun hq => ?_) (fun hq => ?_)⟩
    · have hq : (i : Int) < xl.length := hq
      refine ⟨rfl, br_split (fun h6 => ?_) (fun h6 => ?_)⟩
      · have h6 : (i : Int) < 6 := h6
        have inc := (i64_in ((i : Int) + 1) ⟨by omega, by omega⟩).symm
        refine ⟨rfl, br_yes (p := 0 < z) (by omega) ?_⟩
        obtain ⟨a, y, rfl, hyi, hr⟩ := jv_at h1 (lA.trans l6) (j := i) (by omega) rfl
        have hyo := h3 y (List.mem_of_getElem? hyi)
        have hcall := fun W' (lw : W.Le W') => ih y W' (hyo.mono lw)
        obtain ⟨yk, yb, yi, yt, yA, yl, yc, yA', yks, yc', rfl, _⟩ := hyo.form
        refine ⟨⟨by omega, hq⟩, _, rfl, (JV.mk yk yb yi yt (.slice yA yl.length yc) yl (.slice yA' yks.length yc') yks).cells, rfl, hr.o, rfl, ((d : Nat) : Int), (by rw [i64_in _ ⟨by omega, by omega⟩]; omega), ?_⟩
        refine call_v rfl (fun W' lw => hcall W' (lA.trans (l6.trans lw))) (fun W7 v W8 l7 l8 hw => ?_)
        obtain ⟨q, hqo, rfl, hqe⟩ := hw
        have hone := hqo.cellsOK
        have hsn := jl_snoc (l := l) (x := q)
        obtain ⟨qk, qb, qi, qt, qA, ql, qc, qA', qks, qc', rfl, _⟩ := hqo.form
        refine ⟨rfl, .inl fun bd Wd ld hrd => ⟨0, _, (JV.mk qk qb qi qt (.slice qA ql.length qc) ql (.slice qA' qks.length qc') qks).cells, rfl, rfl, rfl, rfl, rfl, hone, fun _ => ⟨_, rfl, hrd.o⟩, by show l.length + 1 ≤ maxLen; omega, by show (l.length + 1) * 88 ≤ 140737488355328; omega, rfl, @fun Ae ce _ => ?_⟩⟩
        refine ⟨rfl, _, inc, ⟨i + 1, Ae, ce, l ++ [.mk qk qb qi qt (.slice qA ql.length qc) ql (.slice qA' qks.length qc') qks]⟩, all_sl ⟨?_, rfl, trivial⟩, rfl, ole_eq ?_, ⟨by dsimp only; omega, by dsimp only; omega, by dsimp only; rw [List.length_append, hll]; (first | done | rfl), ?_, ?_⟩, by dsimp only; omega⟩
        · dsimp only; rw [List.length_append]; (first | done | rfl)
        · exact congrArg (fun o => [o]) (hsn Ae ce)
        · intro y hy
          rcases List.mem_append.1 hy with hy | hy
          · exact (hok y hy).mono (l7.trans (l8.trans ld))
          · rw [List.mem_singleton.1 hy]; exact hqo.mono ld
        · dsimp only
          rw [ers_snoc, hqe, her, List.take_add_one, List.map_append]
          congr 1
          rw [ers_map, List.getElem?_map, hyi]; (first | done | rfl)
      · have h6 : ¬ (i : Int) < 6 := h6
        refine RetVC.freeze (fun _ hb => hb) (i := 0) rfl fun Wm lm hs0 => ?_
        exact ret_plain rfl fun W' lw => hfin (.inr (by omega)) W' (lm.trans lw) (SlRead.mono hs0 lw)
    · have hq : ¬ (i : Int) < xl.length := hq
      refine RetVC.freeze (fun _ hb => hb) (i := 0) rfl fun Wm lm hs0 => ?_
      exact ret_plain rfl fun W' lw => hfin (.inl (by omega)) W' (lm.trans lw) (SlRead.mono hs0 lw)

/-! ## Same -/
set_option maxHeartbeats 8000000 in
theorem jsamet_x (ks : List (List UInt8)) (u u' : Value) (W : PW) (hu : RP sC W u ks) (hu' : RP sC W u' ks) : CallsX Tryd.prog 93 ⟨[u, u']⟩ [] W fun v _ => v = .bool true := by
  obtain ⟨A0, c0, rfl, k1, k2⟩ := hu.form
  obtain ⟨A1, c1, rfl, _, _⟩ := hu'.form
  have hml := imax k1 k2
  refine pureX hmix Tryd.func93 r93 (by kernel_rfl) [.slice A0 ks.length c0, .slice A1 ks.length c1] rfl ?_
  refine ⟨rfl, br_nsplit (fun hn => absurd rfl hn) (fun _ => ?_)⟩
  refine ⟨Nat, fun i => [(5, .v (.int .i64 i))], fun _ => [], fun _ => [], fun i _ => i ≤ ks.length, fun i => ks.length - i, 0,
    all_sl ⟨rfl, trivial⟩, rfl, ole_refl _, Nat.zero_le _, loopOK (fun _ => ⟨⟨trivial, rfl⟩, trivial⟩) (fun _ => rfl) (fun _ => rfl), ?_⟩
  intro i W1 l1 hi fr
  refine ⟨rfl, br_split (fun hq => ?_) (fun hq => ?_)⟩
  · have hq : (i : Int) < ks.length := hq
    have inc := (i64_in ((i : Int) + 1) ⟨by omega, by omega⟩).symm
    obtain ⟨a, rfl, x, hx, _, hr, _⟩ := RP.at (f := sC) (fun _ => rfl) hu l1 (j := (i : Int)) ⟨by omega, by omega⟩
    obtain ⟨a', rfl, x', hx', _, hr', _⟩ := RP.at (f := sC) (fun _ => rfl) hu' l1 (j := (i : Int)) ⟨by omega, by omega⟩
    obtain rfl : x = x' := Option.some.inj (hx.symm.trans hx')
    refine ⟨⟨by omega, hq⟩, _, rfl, strV x, (hr (by decide) _ rfl).o, ⟨by omega, hq⟩, _, rfl, strV x, (hr' (by decide) _ rfl).o, br_nsplit (fun hn => absurd rfl hn) (fun _ => ?_)⟩
    exact ⟨rfl, _, inc, i + 1, all_sl ⟨rfl, trivial⟩, rfl, ole_refl _, by dsimp only; omega, by dsimp only; omega⟩
  · exact ret_plain rfl fun _ _ => rfl
set_option maxHeartbeats 8000000 in
theorem jequal_x (ks : List (List UInt8)) (u u' : Value) (W : PW) (hu : RP sC W u ks) (hu' : RP sC W u' ks) : CallsX Tryd.prog 94 ⟨[u, u']⟩ [] W fun v _ => v = .bool true := by
  obtain ⟨A0, c0, rfl, k1, k2⟩ := hu.form
  obtain ⟨A1, c1, rfl, _, _⟩ := hu'.form
  have hml := imax k1 k2
  refine pureX hmix Tryd.func94 r94 (by kernel_rfl) [.slice A0 ks.length c0, .slice A1 ks.length c1] rfl ?_
  refine ⟨rfl, br_nsplit (fun hn => absurd rfl hn) (fun _ => ?_)⟩
  refine ⟨Nat, fun i => [(13, .v (.int .i64 i))], fun _ => [], fun _ => [], fun i _ => i ≤ ks.length, fun i => ks.length - i, 0,
    all_sl ⟨rfl, trivial⟩, rfl, ole_refl _, Nat.zero_le _, loopOK (fun _ => ⟨⟨trivial, rfl⟩, trivial⟩) (fun _ => rfl) (fun _ => rfl), ?_⟩
  intro i W1 l1 hi fr
  refine ⟨rfl, br_split (fun hq => ?_) (fun hq => ?_)⟩
  · have hq : (i : Int) < ks.length := hq
    have inc := (i64_in ((i : Int) + 1) ⟨by omega, by omega⟩).symm
    obtain ⟨a, rfl, x, hx, _, hr, _⟩ := RP.at (f := sC) (fun _ => rfl) hu l1 (j := (i : Int)) ⟨by omega, by omega⟩
    obtain ⟨a', rfl, x', hx', _, hr', _⟩ := RP.at (f := sC) (fun _ => rfl) hu' l1 (j := (i : Int)) ⟨by omega, by omega⟩
    obtain rfl : x = x' := Option.some.inj (hx.symm.trans hx')
    refine ⟨⟨by omega, hq⟩, _, rfl, strV x, (hr (by decide) _ rfl).o, ⟨by omega, hq⟩, _, rfl, strV x, (hr' (by decide) _ rfl).o, br_nsplit (fun hn => absurd rfl hn) (fun _ => ?_)⟩
    exact ⟨rfl, _, inc, i + 1, all_sl ⟨rfl, trivial⟩, rfl, ole_refl _, by dsimp only; omega, by dsimp only; omega⟩
  · exact ret_plain rfl fun _ _ => rfl
def SameX (f : FuncId) (n : Nat) : Prop := ∀ (x y : JV) (W : PW), SizeOf.sizeOf x.er < n → x.er = y.er → JOK W x → JOK W y → CallsX Tryd.prog f ⟨[.agg ⟨x.cells⟩, .agg ⟨y.cells⟩]⟩ [] W fun v _ => v = .bool true
theorem same_at {xl yl : List JV} (h : JV.ers xl = JV.ers yl) {i : Nat} {x y : JV} (hx : xl[i]? = some x) (hy : yl[i]? = some y) : x.er = y.er := by
  have := congrArg (fun l => l[i]?) h
  simp only [ers_map, List.getElem?_map, hx, hy, Option.map_some, Option.some.injEq] at this
  exact this
theorem size_at {k : Int} {b : Bool} {i : Int} {t : List UInt8} {ks : List (List UInt8)} {l : List JV} {n : Nat} (h : SizeOf.sizeOf (JT.mk k b i t (JV.ers l) ks) < n + 1) {x : JV} (hx : x ∈ l) : SizeOf.sizeOf x.er < n := by
  have hm : x.er ∈ JV.ers l := by rw [ers_map]; exact List.mem_map_of_mem hx
  have := List.sizeOf_lt_of_mem hm
  simp at h
  omega
set_option maxRecDepth 20000 in
set_option maxHeartbeats 16000000 in
theorem rsame_x : ∀ n : Nat, SameX 51 n
  | 0 => fun x y W h => absurd h (Nat.not_lt_zero _)
  | n + 1 => fun x y W hn he hx hy => by
    have ih := rsame_x n
    obtain ⟨xk, xb, xi, xt, xA, xl, xc, xA', xks, xc', rfl, k1, k2, _⟩ := hx.form
    obtain ⟨yk, yb, yi, yt, yA, yl, yc, yA', yks, yc', rfl, _⟩ := hy.form
    have hml := imax k1 k2
    cases hx with
    | mk h1 h2 h3 =>
    cases hy with
    | mk g1 g2 g3 =>
    have he : JT.mk xk xb xi xt (JV.ers xl) xks = JT.mk yk yb yi yt (JV.ers yl) yks := he
    injection he with e1 e2 e3 e4 e5 e6
    subst e1 e2 e3 e4 e6
    have hlen : xl.length = yl.length := by
      have := congrArg List.length e5
      rwa [ers_map, ers_map, List.length_map, List.length_map] at this
    have hat := fun (i : Nat) (x y : JV) (hx : xl[i]? = some x) (hy : yl[i]? = some y) => same_at e5 hx hy
    rw [← hlen] at g1 ⊢
    refine pureX hmix Tryd.func51 r51 (by kernel_rfl) [.agg ⟨(JV.mk xk xb xi xt (.slice xA xl.length xc) xl (.slice xA' xks.length xc') xks).cells⟩, .agg ⟨(JV.mk xk xb xi xt (.slice yA xl.length yc) yl (.slice yA' xks.length yc') xks).cells⟩] rfl ?_
    refine ⟨rfl, ?_⟩
    refine br_nsplit (fun hn => absurd rfl hn) (fun _ => ?_)
    refine br_f (b := !(xb == xb)) (by cases xb <;> rfl) ⟨rfl, ?_⟩
    refine br_nsplit (fun hn => absurd rfl hn) (fun _ => ?_)
    refine br_nsplit (fun hn => absurd rfl hn) (fun _ => ?_)
    refine call_v rfl (fun W' lw => jsamet_x xks _ _ W' (h2.mono lw) (g2.mono lw)) (fun W2 v W3 l2 l3 hv => ?_)
    subst hv
    have lA := l2.trans l3
    refine ⟨rfl, br_nsplit (fun hn => absurd rfl hn) (fun _ => ?_)⟩
    refine ⟨Nat, fun i => [(5, .v (.int .i64 i))], fun _ => [(JV.mk xk xb xi xt (.slice xA xl.length xc) xl (.slice xA' xks.length xc') xks).cells.map PV.v, (JV.mk xk xb xi xt (.slice yA xl.length yc) yl (.slice yA' xks.length yc') xks).cells.map PV.v], fun _ => [], fun i _ => i ≤ xl.length, fun i => xl.length - i, 0,
      all_sl ⟨rfl, trivial⟩, rfl, ole_refl _, Nat.zero_le _, loopOK (fun _ => ⟨⟨trivial, rfl⟩, trivial⟩) (fun _ => rfl) (fun _ => rfl), ?_⟩
    intro i W1 l1 hi fr
    refine ⟨rfl, br_split (fun hq => ?_) (fun hq => ?_)⟩
    · have hq : (i : Int) < xl.length := hq
      have inc := (i64_in ((i : Int) + 1) ⟨by omega, by omega⟩).symm
      obtain ⟨a, p, rfl, hpi, hr⟩ := jv_at h1 (lA.trans l1) (j := i) (by omega) rfl
      obtain ⟨a', q, rfl, hqi, hr'⟩ := jv_at g1 (lA.trans l1) (j := i) (by omega) hlen
      have hpo := h3 p (List.mem_of_getElem? hpi)
      have hqo := g3 q (List.mem_of_getElem? hqi)
      have hcall := fun W' (lw : W.Le W') => ih p q W' (size_at hn (List.mem_of_getElem? hpi)) (hat i p q hpi hqi) (hpo.mono lw) (hqo.mono lw)
      obtain ⟨pk, pb, pi, pt, pA, pl, pc, pA', pks, pc', rfl, _⟩ := hpo.form
      obtain ⟨qk, qb, qi, qt, qA, ql, qc, qA', qks, qc', rfl, _⟩ := hqo.form
      refine ⟨⟨by omega, hq⟩, _, rfl, (JV.mk pk pb pi pt (.slice pA pl.length pc) pl (.slice pA' pks.length pc') pks).cells, rfl, hr.o, ⟨by omega, hq⟩, _, rfl, (JV.mk qk qb qi qt (.slice qA ql.length qc) ql (.slice qA' qks.length qc') qks).cells, rfl, hr'.o, ?_⟩
      refine call_v rfl (fun W' lw => hcall W' (lA.trans (l1.trans lw))) (fun W5 v W6 l5 l6 hv => ?_)
      subst hv
      exact ⟨rfl, _, inc, i + 1, all_sl ⟨rfl, trivial⟩, rfl, ole_refl _, by dsimp only; omega, by dsimp only; omega⟩
    · exact ret_plain rfl fun _ _ => rfl
set_option maxRecDepth 20000 in
set_option maxHeartbeats 16000000 in
theorem jeqf_x (n : Nat) (ih : SameX 52 n) (xl yl : List JV) (u u' : Value) (W : PW) (he : JV.ers xl = JV.ers yl) (hs : ∀ x ∈ xl, SizeOf.sizeOf x.er < n) (h1 : RP JV.cells W u xl) (g1 : RP JV.cells W u' yl) (h3 : ∀ x ∈ xl, JOK W x) (g3 : ∀ x ∈ yl, JOK W x) :
    CallsX Tryd.prog 95 ⟨[u, u', .func (.func 52) #[] #[]]⟩ [] W fun v _ => v = .bool true := by
  obtain ⟨xA, xc, rfl, k1, k2⟩ := h1.form
  obtain ⟨yA, yc, rfl, _, _⟩ := g1.form
  have hml := imax k1 k2
  have hlen : xl.length = yl.length := by
    have := congrArg List.length he
    rwa [ers_map, ers_map, List.length_map, List.length_map] at this
  rw [← hlen] at g1 ⊢
  refine pureX hmix Tryd.func95 r95 (by kernel_rfl) [.slice xA xl.length xc, .slice yA xl.length yc, .func (.func 52) #[] #[]] rfl ?_
  refine ⟨rfl, br_nsplit (fun hn => absurd rfl hn) (fun _ => ?_)⟩
  refine ⟨Nat, fun i => [(17, .v (.int .i64 i))], fun _ => [], fun _ => [], fun i _ => i ≤ xl.length, fun i => xl.length - i, 0,
    all_sl ⟨rfl, trivial⟩, rfl, ole_refl _, Nat.zero_le _, loopOK (fun _ => ⟨⟨trivial, rfl⟩, trivial⟩) (fun _ => rfl) (fun _ => rfl), ?_⟩
  intro i W1 l1 hi fr
  refine ⟨rfl, br_split (fun hq => ?_) (fun hq => ?_)⟩
  · have hq : (i : Int) < xl.length := hq
    have inc := (i64_in ((i : Int) + 1) ⟨by omega, by omega⟩).symm
    obtain ⟨a, p, rfl, hpi, hr⟩ := jv_at h1 l1 (j := i) (by omega) rfl
    obtain ⟨a', q, rfl, hqi, hr'⟩ := jv_at g1 l1 (j := i) (by omega) hlen
    have hpo := h3 p (List.mem_of_getElem? hpi)
    have hqo := g3 q (List.mem_of_getElem? hqi)
    have hcall := fun W' (lw : W.Le W') => ih p q W' (hs p (List.mem_of_getElem? hpi)) (same_at he hpi hqi) (hpo.mono lw) (hqo.mono lw)
    obtain ⟨pk, pb, pi, pt, pA, pl, pc, pA', pks, pc', rfl, _⟩ := hpo.form
    obtain ⟨qk, qb, qi, qt, qA, ql, qc, qA', qks, qc', rfl, _⟩ := hqo.form
    refine ⟨⟨by omega, hq⟩, _, rfl, (JV.mk pk pb pi pt (.slice pA pl.length pc) pl (.slice pA' pks.length pc') pks).cells, rfl, hr.o, ⟨by omega, hq⟩, _, rfl, (JV.mk qk qb qi qt (.slice qA ql.length qc) ql (.slice qA' qks.length qc') qks).cells, rfl, hr'.o, ?_⟩
    refine call_v rfl (fun W' lw => hcall W' (l1.trans lw)) (fun W5 v W6 l5 l6 hv => ?_)
    subst hv
    exact ⟨rfl, _, inc, i + 1, all_sl ⟨rfl, trivial⟩, rfl, ole_refl _, by dsimp only; omega, by dsimp only; omega⟩
  · exact ret_plain rfl fun _ _ => rfl
set_option maxRecDepth 20000 in
set_option maxHeartbeats 16000000 in
theorem jsame_x : ∀ n : Nat, SameX 52 n
  | 0 => fun x y W h => absurd h (Nat.not_lt_zero _)
  | n + 1 => fun x y W hn he hx hy => by
    have ih := jsame_x n
    obtain ⟨xk, xb, xi, xt, xA, xl, xc, xA', xks, xc', rfl, k1, k2, _⟩ := hx.form
    obtain ⟨yk, yb, yi, yt, yA, yl, yc, yA', yks, yc', rfl, _⟩ := hy.form
    cases hx with
    | mk h1 h2 h3 =>
    cases hy with
    | mk g1 g2 g3 =>
    have he : JT.mk xk xb xi xt (JV.ers xl) xks = JT.mk yk yb yi yt (JV.ers yl) yks := he
    injection he with e1 e2 e3 e4 e5 e6
    subst e1 e2 e3 e4 e6
    have hf := fun W' (lw : W.Le W') => jeqf_x n ih xl yl _ _ W' e5 (fun x hx => size_at hn hx) (h1.mono lw) (g1.mono lw) (fun x hx => (h3 x hx).mono lw) (fun x hx => (g3 x hx).mono lw)
    refine pureX hmix Tryd.func52 r52 (by kernel_rfl) [.agg ⟨(JV.mk xk xb xi xt (.slice xA xl.length xc) xl (.slice xA' xks.length xc') xks).cells⟩, .agg ⟨(JV.mk xk xb xi xt (.slice yA yl.length yc) yl (.slice yA' xks.length yc') xks).cells⟩] rfl ?_
    refine ⟨rfl, ?_⟩
    refine br_nsplit (fun hn => absurd rfl hn) (fun _ => ?_)
    refine br_f (b := !(xb == xb)) (by cases xb <;> rfl) ⟨rfl, ?_⟩
    refine br_nsplit (fun hn => absurd rfl hn) (fun _ => ?_)
    refine br_nsplit (fun hn => absurd rfl hn) (fun _ => ?_)
    refine call_v rfl (fun W' lw => jequal_x xks _ _ W' (h2.mono lw) (g2.mono lw)) (fun W2 v W3 l2 l3 hv => ?_)
    subst hv
    refine call_v rfl (fun W' lw => hf W' (l2.trans (l3.trans lw))) (fun W4 v W5 l4 l5 hv => ?_)
    subst hv
    exact ret_plain rfl fun _ _ => rfl

/-! ## There and back -/
theorem sm_small : ∀ (d : Nat) (x : JT), Sm (smallT d x)
  | 0, .mk k b i t l ks => .mk (by rw [List.length_take]; omega) (by rw [List.length_map, List.length_take]; omega) (fun q hq => by
      obtain ⟨p, _, rfl⟩ := List.mem_map.1 hq
      rw [List.length_take]; omega) (by decide) (fun x h => by cases h)
  | d + 1, .mk k b i t l ks => .mk (by rw [List.length_take]; omega) (by rw [List.length_map, List.length_take]; omega) (fun q hq => by
      obtain ⟨p, _, rfl⟩ := List.mem_map.1 hq
      rw [List.length_take]; omega) (by rw [List.length_map, List.length_take]; omega) (fun x h => by
      obtain ⟨p, _, rfl⟩ := List.mem_map.1 h
      exact sm_small d p)
theorem sm_null : Sm nullT := .mk (by decide) (by decide) (fun _ h => by cases h) (by decide) (fun _ h => by cases h)
theorem lives_c {B : Base} {S : GS} {K : GV → GS → Prop} (hE : HE S.W) (hT : HTJ S.W) (hU : HU S.W) (hK : ∀ W', S.W.Le W' → K (.v (.bool true)) (S.setW W')) : CallVC Tryd.prog B 48 [] [] S K :=
  call_v rfl (fun W' lw => jlives_x W' (hE.mono lw) (hT.mono lw) (hU.mono lw)) (fun _ _ W9 l8 l9 hv => hv ▸ hK W9 (l8.trans l9))
theorem jprS_ok {x : JT} (h : rightT 16 x = true) (hl : (textT 16 x).length ≤ 65536) : jprS x = (textT 16 x, 0) := by
  unfold jprS
  rw [if_pos h, if_neg (by omega)]
set_option maxRecDepth 200000 in
set_option maxHeartbeats 16000000 in
theorem jback_x (x : JV) (s : List UInt8) (W : PW) (hx : JOK W x) (hlim : rightT 16 (smallT 18 x.er) = true → (textT 16 (smallT 18 x.er)).length ≤ 100000000000000) (hE : HE W) (hT : HTJ W) (hU : HU W) : CallsX Tryd.prog 13 ⟨[.agg ⟨x.cells⟩, strV s]⟩ [] W fun v _ => v = .bool true := by
  obtain ⟨j, hj, hj2⟩ : ∃ j, smallT 18 x.er = j ∧ Sm j := ⟨_, rfl, sm_small _ _⟩
  have hS := fun W' (lw : W.Le W') => jsmall_x 18 (by decide) x W' (hx.mono lw)
  rw [hj] at hlim hS
  obtain ⟨s', hs', hsl⟩ : ∃ s', s.take 300 = s' ∧ s'.length ≤ 300 := ⟨_, rfl, by rw [List.length_take]; omega⟩
  have hQ := fun W' (lw : W.Le W') => jparse_x s' (by omega) W' (hE.mono lw) (hT.mono lw) (hU.mono lw)
  obtain ⟨p1, p2, hp1, hp2, hpq⟩ : ∃ p1 p2, (p2 ≠ 0 → p1 = nullT) ∧ (p2 = 0 → rightT 16 p1 = true ∧ (textT 16 p1).length ≤ 1800) ∧ parseJ s' = (p1, p2) := by
    refine ⟨(parseJ s').1, (parseJ s').2, parse_null, fun h => ?_, rfl⟩
    have e : parseJ s' = ((parseJ s').1, 0) := by rw [← h]
    obtain ⟨r1, r2⟩ := parse_right e
    exact ⟨r1, by omega⟩
  rw [hpq] at hQ
  clear hpq
  obtain ⟨xk, xb, xi, xt, xA, xl, xc, xA', xks, xc', rfl, _⟩ := hx.form
  clear hj
  refine pureX hmix Tryd.func13 r13 (by kernel_rfl) [.agg ⟨(JV.mk xk xb xi xt (.slice xA xl.length xc) xl (.slice xA' xks.length xc') xks).cells⟩, strV s] rfl ?_
  refine call_v rfl hS (fun W2 v W3 l2 l3 hv => ?_)
  obtain ⟨y, hy, rfl, hye⟩ := hv
  refine call_v rfl (fun W' _ => short_x s 300 W') (fun W4 v W5 l4 l5 hv => ?_)
  rw [hs'] at hv
  subst hv
  have lA := l2.trans (l3.trans (l4.trans l5))
  have hy := hy.mono (l4.trans l5)
  have hP := fun W' (lw : W5.Le W') => jprint_x y W' (hy.mono lw) (hye ▸ hj2) (hU.mono (lA.trans lw)) (hT.mono (lA.trans lw)) (hye ▸ hlim)
  have hsame1 := fun (w : JV) (W' : PW) (lw : W5.Le W') (hw : JOK W' w) (he : w.er = y.er) => rsame_x _ y w W' (Nat.lt_succ_self _) he.symm (hy.mono lw) hw
  have hsame2 := fun (w : JV) (W' : PW) (lw : W5.Le W') (hw : JOK W' w) (he : w.er = y.er) => jsame_x _ y w W' (Nat.lt_succ_self _) he.symm (hy.mono lw) hw
  rw [hye] at hP hsame1 hsame2
  obtain ⟨yk, yb, yi, yt, yA, yl, yc, yA', yks, yc', rfl, _⟩ := hy.form
  refine call_v rfl hP (fun W6 v W7 l6 l7 hv => ?_)
  obtain ⟨t, e, rfl, hte⟩ : ∃ t e, v = .tuple ⟨[strV t, .int .i64 e]⟩ ∧ (e = 0 → t = textT 16 j ∧ rightT 16 j = true ∧ t.length ≤ 65536) := by
    refine ⟨_, _, hv, fun h => ?_⟩
    unfold jprS at h ⊢
    split at h
    · rename_i hr
      rw [if_pos hr]
      split at h
      · cases h
      · rename_i hl
        rw [if_neg hl]
        exact ⟨rfl, hr, by show (textT 16 j).length ≤ 65536; omega⟩
    · cases h
  clear hv
  refine ⟨_, rfl, _, rfl, rfl, ?_⟩
  have lB := lA.trans (l6.trans l7)
  have lC := l6.trans l7
  by_cases he0 : e = 0
  · obtain ⟨rfl, hr, hl⟩ := hte he0
    refine br_yes (p := e = 0) he0 ?_
    refine call_v rfl (fun W' lw => jparse_x (textT 16 j) (by omega) W' (hE.mono (lB.trans lw)) (hT.mono (lB.trans lw)) (hU.mono (lB.trans lw))) (fun W8 v W9 l8 l9 hv => ?_)
    rw [parse_text hr hl] at hv
    obtain ⟨w, hw, rfl, hwe⟩ := hv
    have hs1 := fun W' (lw : W9.Le W') => hsame1 w W' (lC.trans (l8.trans (l9.trans lw))) (hw.mono lw) hwe
    have hs2 := fun W' (lw : W9.Le W') => hsame2 w W' (lC.trans (l8.trans (l9.trans lw))) (hw.mono lw) hwe
    obtain ⟨wk, wb, wi, wt, wA, wl, wc, wA', wks, wc', rfl, _⟩ := hw.form
    refine ⟨_, rfl, _, rfl, rfl, ?_⟩
    refine call_v rfl hs1 (fun W10 v W11 l10 l11 hv => ?_)
    subst hv
    refine call_v rfl (fun W' lw => hs2 W' (l10.trans (l11.trans lw))) (fun W12 v W13 l12 l13 hv => ?_)
    subst hv
    have lZ := lB.trans (l8.trans (l9.trans (l10.trans (l11.trans (l12.trans l13)))))
    refine call_v rfl (fun W' lw => hQ W' (lZ.trans lw)) (fun V1 v V2 m1 m2 hv => ?_)
    obtain ⟨q, hq, rfl, hqe⟩ := hv
    have hqe : q.er = p1 := hqe
    have lY := lZ.trans (m1.trans m2)
    have hN := fun (hz : p2 ≠ 0) W' (lw : V2.Le W') => rsame_x _ q nullV W' (Nat.lt_succ_self _) (hqe.trans (hp1 hz)) (hq.mono lw) (JOK.leaf W' 0 false 0 [])
    have hPr := fun (hz : p2 = 0) W' (lw : V2.Le W') => jprint_x q W' (hq.mono lw) (hqe ▸ sm_of 16 p1 (hp2 hz).1 (by have := (hp2 hz).2; omega)) (hU.mono (lY.trans lw)) (hT.mono (lY.trans lw)) (fun _ => by rw [hqe]; have := (hp2 hz).2; omega)
    have hS3 := fun (y2 : JV) W' (lw : V2.Le W') (hy2 : JOK W' y2) (e : y2.er = p1) => rsame_x _ q y2 W' (Nat.lt_succ_self _) (hqe.trans e.symm) (hq.mono lw) hy2
    rw [hqe] at hPr
    obtain ⟨qk, qb, qi, qt, qA, ql, qc, qA', qks, qc', rfl, _⟩ := hq.form
    refine ⟨_, rfl, _, rfl, rfl, ?_⟩
    apply br_nsplit
    · intro hz
      have hz : ¬ p2 = 0 := hz
      refine call_v rfl (hN hz) (fun V3 v V4 m3 m4 hv => ?_)
      subst hv
      have lX := lY.trans (m3.trans m4)
      refine lives_c (hE.mono lX) (hT.mono lX) (hU.mono lX) fun W' _ => ?_
      exact ret_plain rfl fun _ _ => rfl
    · intro hz
      have hz : p2 = 0 := hz
      obtain ⟨r1, r2⟩ := hp2 hz
      refine call_v rfl (hPr hz) (fun V3 v V4 m3 m4 hv => ?_)
      rw [jprS_ok r1 (by omega)] at hv
      subst hv
      refine ⟨_, rfl, _, rfl, ?_⟩
      have lX := lY.trans (m3.trans m4)
      refine call_v rfl (fun W' lw => jparse_x (textT 16 p1) (by omega) W' (hE.mono (lX.trans lw)) (hT.mono (lX.trans lw)) (hU.mono (lX.trans lw))) (fun V5 v V6 m5 m6 hv => ?_)
      rw [parse_text r1 (by omega)] at hv
      obtain ⟨y2, hy2, rfl, hy2e⟩ := hv
      have hS4 := fun W' (lw : V6.Le W') => hS3 y2 W' (m3.trans (m4.trans (m5.trans (m6.trans lw)))) (hy2.mono lw) hy2e
      obtain ⟨zk, zb, zi, zt, zA, zl, zc, zA', zks, zc', rfl, _⟩ := hy2.form
      refine ⟨_, rfl, _, rfl, rfl, rfl, ?_⟩
      refine call_v rfl hS4 (fun V7 v V8 m7 m8 hv => ?_)
      subst hv
      have lW := lX.trans (m5.trans (m6.trans (m7.trans m8)))
      refine lives_c (hE.mono lW) (hT.mono lW) (hU.mono lW) fun W' _ => ?_
      exact ret_plain rfl fun _ _ => rfl
  · refine br_no (p := e = 0) he0 ?_
    have lZ := lB
    refine call_v rfl (fun W' lw => hQ W' (lZ.trans lw)) (fun V1 v V2 m1 m2 hv => ?_)
    obtain ⟨q, hq, rfl, hqe⟩ := hv
    have hqe : q.er = p1 := hqe
    have lY := lZ.trans (m1.trans m2)
    have hN := fun (hz : p2 ≠ 0) W' (lw : V2.Le W') => rsame_x _ q nullV W' (Nat.lt_succ_self _) (hqe.trans (hp1 hz)) (hq.mono lw) (JOK.leaf W' 0 false 0 [])
    have hPr := fun (hz : p2 = 0) W' (lw : V2.Le W') => jprint_x q W' (hq.mono lw) (hqe ▸ sm_of 16 p1 (hp2 hz).1 (by have := (hp2 hz).2; omega)) (hU.mono (lY.trans lw)) (hT.mono (lY.trans lw)) (fun _ => by rw [hqe]; have := (hp2 hz).2; omega)
    have hS3 := fun (y2 : JV) W' (lw : V2.Le W') (hy2 : JOK W' y2) (e : y2.er = p1) => rsame_x _ q y2 W' (Nat.lt_succ_self _) (hqe.trans e.symm) (hq.mono lw) hy2
    rw [hqe] at hPr
    obtain ⟨qk, qb, qi, qt, qA, ql, qc, qA', qks, qc', rfl, _⟩ := hq.form
    refine ⟨_, rfl, _, rfl, rfl, ?_⟩
    apply br_nsplit
    · intro hz
      have hz : ¬ p2 = 0 := hz
      refine call_v rfl (hN hz) (fun V3 v V4 m3 m4 hv => ?_)
      subst hv
      have lX := lY.trans (m3.trans m4)
      refine lives_c (hE.mono lX) (hT.mono lX) (hU.mono lX) fun W' _ => ?_
      exact ret_plain rfl fun _ _ => rfl
    · intro hz
      have hz : p2 = 0 := hz
      obtain ⟨r1, r2⟩ := hp2 hz
      refine call_v rfl (hPr hz) (fun V3 v V4 m3 m4 hv => ?_)
      rw [jprS_ok r1 (by omega)] at hv
      subst hv
      refine ⟨_, rfl, _, rfl, ?_⟩
      have lX := lY.trans (m3.trans m4)
      refine call_v rfl (fun W' lw => jparse_x (textT 16 p1) (by omega) W' (hE.mono (lX.trans lw)) (hT.mono (lX.trans lw)) (hU.mono (lX.trans lw))) (fun V5 v V6 m5 m6 hv => ?_)
      rw [parse_text r1 (by omega)] at hv
      obtain ⟨y2, hy2, rfl, hy2e⟩ := hv
      have hS4 := fun W' (lw : V6.Le W') => hS3 y2 W' (m3.trans (m4.trans (m5.trans (m6.trans lw)))) (hy2.mono lw) hy2e
      obtain ⟨zk, zb, zi, zt, zA, zl, zc, zA', zks, zc', rfl, _⟩ := hy2.form
      refine ⟨_, rfl, _, rfl, rfl, rfl, ?_⟩
      refine call_v rfl hS4 (fun V7 v V8 m7 m8 hv => ?_)
      subst hv
      have lW := lX.trans (m5.trans (m6.trans (m7.trans m8)))
      refine lives_c (hE.mono lW) (hT.mono lW) (hU.mono lW) fun W' _ => ?_
      exact ret_plain rfl fun _ _ => rfl
end Go.Proofs.YtkhgmmejgikgnaaDoor
