/- unicode/utf8.ValidString, walked: where all bytes are below 128. -/
import Derived.Test.YtkhgmmejgikgnaaDoorQueF
import Derived.Test.YtkhgmmejgikgnaaDoorCodeRU
namespace Go.Proofs.YtkhgmmejgikgnaaDoor
open Go.RowKit

set_option maxHeartbeats 4000000 in
theorem word_x (t : List UInt8) (h : 8 ≤ t.length) (W : PW) : CallsX Tryd.prog 125 ⟨[strV t]⟩ [] W fun v _ => ∃ z, v = .int .u64 z := by
  refine pureX hmix Tryd.func125 r125 (by kernel_rfl) [strV t] rfl ?_
  refine ⟨⟨by decide, by show (0 : Int) < (t.length : Int); omega⟩, _, rfl, ?_⟩
  refine ⟨⟨by decide, by show (1 : Int) < (t.length : Int); omega⟩, _, rfl, by decide, _, rfl, rfl, _, rfl, ?_⟩
  refine ⟨⟨by decide, by show (2 : Int) < (t.length : Int); omega⟩, _, rfl, by decide, _, rfl, rfl, _, rfl, ?_⟩
  refine ⟨⟨by decide, by show (3 : Int) < (t.length : Int); omega⟩, _, rfl, by decide, _, rfl, rfl, _, rfl, ?_⟩
  refine ⟨⟨by decide, by show (4 : Int) < (t.length : Int); omega⟩, _, rfl, by decide, _, rfl, rfl, _, rfl, ?_⟩
  refine ⟨⟨by decide, by show (5 : Int) < (t.length : Int); omega⟩, _, rfl, by decide, _, rfl, rfl, _, rfl, ?_⟩
  refine ⟨⟨by decide, by show (6 : Int) < (t.length : Int); omega⟩, _, rfl, by decide, _, rfl, rfl, _, rfl, ?_⟩
  refine ⟨⟨by decide, by show (7 : Int) < (t.length : Int); omega⟩, _, rfl, by decide, _, rfl, rfl, _, rfl, ?_⟩
  exact ret_plain rfl fun _ _ => ⟨_, rfl⟩
def Asc (t : List UInt8) : Prop := ∀ b ∈ t, b.toNat < 128
theorem Asc.drop {t : List UInt8} (h : Asc t) (n : Nat) : Asc (t.drop n) := fun b hb => h b (List.mem_of_mem_drop hb)
theorem cut_drop {t : List UInt8} {n : Nat} (a : Nat) (hn : n = t.length) : (t.drop a).take (n - a) = t.drop a := List.take_of_length_le (by rw [List.length_drop]; omega)
theorem asc_at {t : List UInt8} (h : Asc t) (h0 : 0 < t.length) : byteAt t 0 < 128 := by
  have e : t[0]? = some t[0] := List.getElem?_eq_getElem h0
  rw [byteAt_get e]
  have := h t[0] (List.getElem_mem h0)
  omega
set_option maxRecDepth 20000 in
set_option maxHeartbeats 4000000 in
theorem valid_x (s : List UInt8) (hs : Asc s) (hl : s.length ≤ 1000000) (W : PW) : CallsX Tryd.prog 86 ⟨[strV s]⟩ [] W fun v _ => v = .bool true := by
  refine pureX hmix Tryd.func86 r86 (by kernel_rfl) [strV s] rfl ?_
  refine ⟨List UInt8, fun t => [(0, .v (strV t))], fun _ => [], fun _ => [], fun t _ => Asc t ∧ t.length ≤ 1000000, fun t => t.length, s,
    all_sl ⟨rfl, trivial⟩, rfl, ole_refl _, ⟨hs, hl⟩, loopOK (fun _ => ⟨⟨trivial, rfl⟩, trivial⟩) (fun _ => rfl) (fun _ => rfl), ?_⟩
  rintro t W1 l1 ⟨ht, htl⟩ fr
  refine ⟨rfl, ?_⟩
  apply br_split
  rotate_left
  · intro _
    exact ret_plain rfl fun _ _ => rfl
  intro h0
  have h0 : (0 : Int) < (t.length : Int) := h0
  have hb := asc_at ht (by omega)
  refine ⟨⟨by decide, h0⟩, rfl, ?_⟩
  apply br_split
  rotate_left
  · intro hn
    exact absurd hb hn
  intro _
  refine ⟨⟨by decide, by show (1 : Int) ≤ (t.length : Int); omega, Int.le_refl _⟩, ?_⟩
  have e1 : (t.drop (1 : Int).toNat).take ((t.length : Int).toNat - (1 : Int).toNat) = t.drop 1 := cut_drop 1 (by omega)
  generalize (t.drop (1 : Int).toNat).take ((t.length : Int).toNat - (1 : Int).toNat) = t1 at e1 ⊢
  have ht1 : Asc t1 := by rw [e1]; exact ht.drop 1
  have hl1 : t1.length + 1 = t.length := by rw [e1, List.length_drop]; omega
  refine ⟨rfl, ?_⟩
  apply br_split
  rotate_left
  · intro _
    exact ⟨t1, all_sl ⟨rfl, trivial⟩, rfl, ole_refl _, ⟨ht1, by omega⟩, by dsimp only; omega⟩
  intro h8
  have h8 : (8 : Int) < (t1.length : Int) := h8
  refine call_v rfl (fun W' _ => word_x t1 (by omega) W') (fun W2 v W3 l2 l3 hv => ?_)
  obtain ⟨z, rfl⟩ := hv
  obtain ⟨r, hr⟩ : ∃ r, Op.intBits .and .u64 z 9259542123273814144 = pure (.int .u64 r) := ⟨_, rfl⟩
  refine ⟨rfl, r, hr, rfl, ?_⟩
  apply br_split
  rotate_left
  · intro _
    exact ⟨t1, all_sl ⟨rfl, trivial⟩, rfl, ole_refl _, ⟨ht1, by omega⟩, by dsimp only; omega⟩
  intro _
  refine ⟨⟨by decide, by show (8 : Int) ≤ (t1.length : Int); omega, Int.le_refl _⟩, ?_⟩
  have e2 : (t1.drop (8 : Int).toNat).take ((t1.length : Int).toNat - (8 : Int).toNat) = t1.drop 8 := cut_drop 8 (by omega)
  generalize (t1.drop (8 : Int).toNat).take ((t1.length : Int).toNat - (8 : Int).toNat) = t2 at e2 ⊢
  have ht2 : Asc t2 := by rw [e2]; exact ht1.drop 8
  have hl2 : t2.length + 8 = t1.length := by rw [e2, List.length_drop]; omega
  refine ⟨rfl, ?_⟩
  apply br_split
  rotate_left
  · intro _
    exact ⟨t2, all_sl ⟨rfl, trivial⟩, rfl, ole_refl _, ⟨ht2, by omega⟩, by dsimp only; omega⟩
  intro h16
  have h16 : (16 : Int) < (t2.length : Int) := h16
  refine ⟨⟨by decide, by show (8 : Int) ≤ (t2.length : Int); omega, Int.le_refl _⟩, ?_⟩
  have e3 : (t2.drop (8 : Int).toNat).take ((t2.length : Int).toNat - (8 : Int).toNat) = t2.drop 8 := cut_drop 8 (by omega)
  generalize (t2.drop (8 : Int).toNat).take ((t2.length : Int).toNat - (8 : Int).toNat) = t3 at e3 ⊢
  have hl3 : t3.length + 8 = t2.length := by rw [e3, List.length_drop]; omega
  refine call_v rfl (fun W' _ => word_x t2 (by omega) W') (fun W4 v W5 l4 l5 hv => ?_)
  obtain ⟨z1, rfl⟩ := hv
  refine call_v rfl (fun W' _ => word_x t3 (by omega) W') (fun W6 v W7 l6 l7 hv => ?_)
  obtain ⟨z2, rfl⟩ := hv
  obtain ⟨r1, hr1⟩ : ∃ r, Op.intBits .or .u64 z1 z2 = pure (.int .u64 r) := ⟨_, rfl⟩
  obtain ⟨r2, hr2⟩ : ∃ r, Op.intBits .and .u64 r1 9259542123273814144 = pure (.int .u64 r) := ⟨_, rfl⟩
  refine ⟨rfl, r1, hr1, rfl, r2, hr2, rfl, ?_⟩
  apply br_split
  rotate_left
  · intro _
    exact ⟨t2, all_sl ⟨rfl, trivial⟩, rfl, ole_refl _, ⟨ht2, by omega⟩, by dsimp only; omega⟩
  intro _
  refine ⟨⟨by decide, by show (16 : Int) ≤ (t2.length : Int); omega, Int.le_refl _⟩, ?_⟩
  have e4 : (t2.drop (16 : Int).toNat).take ((t2.length : Int).toNat - (16 : Int).toNat) = t2.drop 16 := cut_drop 16 (by omega)
  generalize (t2.drop (16 : Int).toNat).take ((t2.length : Int).toNat - (16 : Int).toNat) = t4 at e4 ⊢
  have ht4 : Asc t4 := by rw [e4]; exact ht2.drop 16
  have hl4 : t4.length + 16 = t2.length := by rw [e4, List.length_drop]; omega
  refine ⟨List UInt8, fun u => [(0, .v (strV u))], fun _ => [], fun _ => [], fun u _ => Asc u ∧ u.length ≤ t4.length, fun u => u.length, t4,
    all_sl ⟨rfl, trivial⟩, rfl, ole_refl _, ⟨ht4, Nat.le_refl _⟩, loopOK (fun _ => ⟨⟨trivial, rfl⟩, trivial⟩) (fun _ => rfl) (fun _ => rfl), ?_⟩
  rintro u W8 l8 ⟨hu, hul⟩ fr2
  refine ⟨rfl, ?_⟩
  apply br_split
  rotate_left
  · intro _
    exact ⟨u, all_sl ⟨rfl, trivial⟩, rfl, ole_refl _, ⟨hu, by omega⟩, by dsimp only; omega⟩
  intro h32
  have h32 : (32 : Int) < (u.length : Int) := h32
  refine ⟨⟨by decide, by show (8 : Int) ≤ (u.length : Int); omega, Int.le_refl _⟩, ?_⟩
  have ea : (u.drop (8 : Int).toNat).take ((u.length : Int).toNat - (8 : Int).toNat) = u.drop 8 := cut_drop 8 (by omega)
  generalize (u.drop (8 : Int).toNat).take ((u.length : Int).toNat - (8 : Int).toNat) = ua at ea ⊢
  have hla : ua.length + 8 = u.length := by rw [ea, List.length_drop]; omega
  refine ⟨⟨by decide, by show (16 : Int) ≤ (u.length : Int); omega, Int.le_refl _⟩, ?_⟩
  have eb : (u.drop (16 : Int).toNat).take ((u.length : Int).toNat - (16 : Int).toNat) = u.drop 16 := cut_drop 16 (by omega)
  generalize (u.drop (16 : Int).toNat).take ((u.length : Int).toNat - (16 : Int).toNat) = ub at eb ⊢
  have hlb : ub.length + 16 = u.length := by rw [eb, List.length_drop]; omega
  refine ⟨⟨by decide, by show (24 : Int) ≤ (u.length : Int); omega, Int.le_refl _⟩, ?_⟩
  have ec : (u.drop (24 : Int).toNat).take ((u.length : Int).toNat - (24 : Int).toNat) = u.drop 24 := cut_drop 24 (by omega)
  generalize (u.drop (24 : Int).toNat).take ((u.length : Int).toNat - (24 : Int).toNat) = uc at ec ⊢
  have hlc : uc.length + 24 = u.length := by rw [ec, List.length_drop]; omega
  refine call_v rfl (fun W' _ => word_x u (by omega) W') (fun _ v _ _ _ hv => ?_)
  obtain ⟨y1, rfl⟩ := hv
  refine call_v rfl (fun W' _ => word_x ua (by omega) W') (fun _ v _ _ _ hv => ?_)
  obtain ⟨y2, rfl⟩ := hv
  obtain ⟨q1, hq1⟩ : ∃ r, Op.intBits .or .u64 y1 y2 = pure (.int .u64 r) := ⟨_, rfl⟩
  refine ⟨rfl, q1, hq1, ?_⟩
  refine call_v rfl (fun W' _ => word_x ub (by omega) W') (fun _ v _ _ _ hv => ?_)
  obtain ⟨y3, rfl⟩ := hv
  refine call_v rfl (fun W' _ => word_x uc (by omega) W') (fun _ v _ _ _ hv => ?_)
  obtain ⟨y4, rfl⟩ := hv
  obtain ⟨q2, hq2⟩ : ∃ r, Op.intBits .or .u64 y3 y4 = pure (.int .u64 r) := ⟨_, rfl⟩
  obtain ⟨q3, hq3⟩ : ∃ r, Op.intBits .or .u64 q1 q2 = pure (.int .u64 r) := ⟨_, rfl⟩
  obtain ⟨q4, hq4⟩ : ∃ r, Op.intBits .and .u64 q3 9259542123273814144 = pure (.int .u64 r) := ⟨_, rfl⟩
  refine ⟨rfl, q2, hq2, rfl, q3, hq3, rfl, q4, hq4, rfl, ?_⟩
  apply br_split
  rotate_left
  · intro _
    exact ⟨u, all_sl ⟨rfl, trivial⟩, rfl, ole_refl _, ⟨hu, by omega⟩, by dsimp only; omega⟩
  intro _
  refine ⟨⟨by decide, by show (32 : Int) ≤ (u.length : Int); omega, Int.le_refl _⟩, ?_⟩
  have e5 : (u.drop (32 : Int).toNat).take ((u.length : Int).toNat - (32 : Int).toNat) = u.drop 32 := cut_drop 32 (by omega)
  generalize (u.drop (32 : Int).toNat).take ((u.length : Int).toNat - (32 : Int).toNat) = t5 at e5 ⊢
  have ht5 : Asc t5 := by rw [e5]; exact hu.drop 32
  have hl5 : t5.length + 32 = u.length := by rw [e5, List.length_drop]; omega
  exact ⟨t5, all_sl ⟨rfl, trivial⟩, rfl, ole_refl _, ⟨ht5, by omega⟩, by dsimp only; omega⟩
end Go.Proofs.YtkhgmmejgikgnaaDoor
