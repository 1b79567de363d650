/- Layer 5 (query), walked: the document's Parse. -/
import Derived.Test.YtkhgmmejgikgnaaGreatDoorQueD
namespace Go.Proofs.YtkhgmmejgikgnaaGreatDoor
open Go.RowKit

/-! ## Cut at each -/
structure RSt where
  i : Nat
  from_ : Nat
  A : Option Addr
  c : Nat
  out : List (List UInt8)
def CutI (c : UInt8) (s : List UInt8) (i k : Nat) (out : List (List UInt8)) : Prop :=
  (i ≤ s.length ∧ k ≤ i ∧ splitL c s = out ++ splitL c (s.drop k) ∧ c ∉ (s.drop k).take (i - k)) ∨ (i = s.length + 1 ∧ splitL c s = out)
theorem piece_more {s : List UInt8} {i k : Nat} {d : UInt8} (hk : k ≤ i) (h : s[i]? = some d) : (s.drop k).take (i + 1 - k) = (s.drop k).take (i - k) ++ [d] := by
  rw [show i + 1 - k = (i - k) + 1 by omega, List.take_add_one, List.getElem?_drop, show k + (i - k) = i by omega, h]; rfl
theorem cutI_end {c : UInt8} {s : List UInt8} {i k : Nat} {out : List (List UInt8)} (hi : i = s.length) (h : splitL c s = out ++ splitL c (s.drop k)) (hn : c ∉ (s.drop k).take (i - k)) : CutI c s (i + 1) (i + 1) (out ++ [(s.drop k).take (i - k)]) := by
  refine .inr ⟨by omega, ?_⟩
  have e : (s.drop k).take (i - k) = s.drop k := List.take_of_length_le (by rw [List.length_drop]; omega)
  rw [e] at hn ⊢
  rw [h, splitL_no hn]
theorem cutI_hit {c : UInt8} {s : List UInt8} {i k : Nat} {out : List (List UInt8)} (hk : k ≤ i) (hc : s[i]? = some c) (h : splitL c s = out ++ splitL c (s.drop k)) (hn : c ∉ (s.drop k).take (i - k)) : CutI c s (i + 1) (i + 1) (out ++ [(s.drop k).take (i - k)]) := by
  have hl := (List.getElem?_eq_some_iff.1 hc).1
  have e : s.drop k = (s.drop k).take (i - k) ++ c :: s.drop (i + 1) := by
    conv => lhs; rw [← List.take_append_drop (i - k) (s.drop k)]
    rw [List.drop_drop, show k + (i - k) = i by omega, drop_q hc]
  refine .inl ⟨by omega, Nat.le_refl _, ?_, by simp⟩
  rw [h]
  conv => lhs; rw [e]
  rw [splitL_app _ hn, List.append_assoc]; rfl
theorem cutI_miss {c d : UInt8} {s : List UInt8} {i k : Nat} {out : List (List UInt8)} (hk : k ≤ i) (hd : s[i]? = some d) (hne : ¬ d = c) (h : splitL c s = out ++ splitL c (s.drop k)) (hn : c ∉ (s.drop k).take (i - k)) : CutI c s (i + 1) k out := by
  have hl := (List.getElem?_eq_some_iff.1 hd).1
  refine .inl ⟨by omega, by omega, h, ?_⟩
  rw [piece_more hk hd]
  intro hm
  rcases List.mem_append.1 hm with hm | hm
  · exact hn hm
  · exact hne (List.mem_singleton.1 hm).symm
/-! ## Parse -/
theorem cutW_at {c : UInt8} {p : List UInt8} {n : Nat} (_ : n ≤ p.length) (h : c ∉ p.take n) : (n = p.length → cutW c p = (p.take n, [])) ∧ (p[n]? = some c → cutW c p = (p.take n, p.drop (n + 1))) := by
  refine ⟨fun e => ?_, fun e => ?_⟩
  · rw [List.take_of_length_le (by omega)] at h ⊢
    exact cutW_no h
  · have := cutW_app (p.drop (n + 1)) h
    rw [← drop_q e, List.take_append_drop] at this
    exact this
/-- A cell of a list of texts that is owned. -/
theorem own_str {S : GS} {i : Nat} {A : Option Addr} {n c j : Nat} {l : List (List UInt8)} {x : List UInt8} {g : Nat} (hA : A = some ⟨g, 0, none⟩) (hn : n = l.length) (hi : S.O[i]? = some (strO (.slice A n c) l)) (hx : l[j]? = some x) : RdO S ((⟨g, 0, none⟩ : Addr).add (j * 1)) (strV x) := by
  subst hA hn
  refine .inr ⟨i, _, ⟨g, 0, none⟩, l.length, c, j * 1, hi, rfl, rfl, ?_⟩
  exact flat_get (sz := 1) (fun _ => rfl) (off := 0) hx (by decide)
structure TSt where
  i : Nat
  A : Option Addr
  c : Nat
  out : List PairS
end Go.Proofs.YtkhgmmejgikgnaaGreatDoor
