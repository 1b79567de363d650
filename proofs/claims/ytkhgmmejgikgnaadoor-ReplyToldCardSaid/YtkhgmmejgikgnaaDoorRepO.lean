/- json.quote of a text without signs, walked. -/
import Derived.Test.YtkhgmmejgikgnaaDoorRepN
namespace Go.Proofs.YtkhgmmejgikgnaaDoor
open Go.RowKit

/-- Only bytes from 93 to 122: small letters, '_'. -/
def Low (t : List UInt8) : Prop := ∀ b ∈ t, 93 ≤ b.toNat ∧ b.toNat ≤ 122
theorem Low.asc {t : List UInt8} (h : Low t) : Asc t := fun b hb => by have := h b hb; omega
set_option maxRecDepth 20000 in
set_option maxHeartbeats 8000000 in
theorem quote_x (s : List UInt8) (hlow : Low s) (hs : s.length ≤ 1000) (W : PW) : CallsX Tryd.prog 138 ⟨[strV s]⟩ [] W fun v _ => v = strV ([34] ++ s ++ [34]) := by
  refine pureNX hmix Tryd.func138 r138 (by kernel_rfl) [nilO 5 1] rfl [strV s] rfl ?_
  obtain ⟨ti, tz, e1, e2, e3⟩ := bld_info
  refine bld_alloc rfl e1 e2 e3 fun b _ => ?_
  refine bld_wbyte (i := 1) (j := 0) (l := []) 34 rfl rfl rfl (by decide) (.inl rfl) (by decide) fun A0 d0 W1 _ => ?_
  refine ⟨BSt, fun t => [(9, .v (.int .i64 t.i))], fun _ => [], bO b, fun t _ => t.p = bldP b ∧ t.i ≤ s.length ∧ t.l = [34] ++ s.take t.i, fun t => s.length - t.i, ⟨0, bldP b, A0, d0, [34]⟩,
    all_sl ⟨rfl, trivial⟩, rfl, ole_refl _, ⟨rfl, Nat.zero_le _, rfl⟩, loopOK (fun _ => ⟨⟨trivial, rfl⟩, trivial⟩) (fun _ => rfl) (fun _ => rfl), ?_⟩
  rintro ⟨i, p, A, c, l⟩ W5 l5 ⟨hu, hi, hl⟩ fr
  dsimp only at hu hi hl
  subst hu
  have hll : l.length ≤ i + 1 := by rw [hl, List.length_append, List.length_take]; show 1 + _ ≤ _; omega
  refine ⟨rfl, br_split (fun hq => ?_) (fun hq => ?_)⟩
  · have hq : (i : Int) < s.length := hq
    obtain ⟨x, hx⟩ := at_q (s := s) (i := i) (by omega)
    have hb : byteAt s (i : Int).toNat = x.toNat := byteAt_get hx
    obtain ⟨k1, k2⟩ := hlow x (List.mem_of_getElem? hx)
    have inc := (i64_in ((i : Int) + 1) ⟨by omega, by omega⟩).symm
    refine ⟨⟨by omega, hq⟩, ?_⟩
    obtain ⟨z, hz⟩ : ∃ z, byteAt s (i : Int).toNat = z := ⟨_, rfl⟩
    generalize byteAt s (i : Int).toNat = z at hb ⊢
    refine ⟨rfl, br_no (p := z = 34) (by omega) ⟨rfl, br_no (p := z = 92) (by omega) ⟨rfl, br_no (p := z = 10) (by omega) ⟨rfl, br_no (p := z = 13) (by omega) ⟨rfl, br_no (p := z = 9) (by omega) ⟨rfl, br_no (p := z < 32) (by omega) ⟨rfl, br_no (p := z = 127) (by omega) ?_⟩⟩⟩⟩⟩⟩⟩
    refine bld_wbyte (i := 1) (j := 0) x hb rfl rfl (by decide) (.inr rfl) (by show l.length + 1 ≤ _; omega) fun A1 d1 W3 _ => ?_
    refine ⟨rfl, _, inc, ⟨i + 1, bldP b, A1, d1, l ++ [x]⟩, all_sl ⟨rfl, trivial⟩, rfl, ole_refl _, ⟨rfl, by dsimp only; omega, by dsimp only; rw [hl, take_snoc hx, List.append_assoc]⟩, by dsimp only; omega⟩
  · have hq : ¬ (i : Int) < s.length := hq
    rw [List.take_of_length_le (by omega)] at hl
    refine bld_wbyte (i := 1) (j := 0) 34 rfl rfl rfl (by decide) (.inr rfl) (by show l.length + 1 ≤ _; omega) fun A1 d1 W3 _ => ?_
    refine bld_str (i := 1) (j := 0) rfl rfl rfl (by simp) (by rw [List.length_append]; show l.length + 1 ≤ _; omega) fun g W9 hA hc l9 hF => ?_
    exact ret_plain rfl fun _ _ => by rw [hl]
end Go.Proofs.YtkhgmmejgikgnaaDoor
