/- Layer 18 (strata), walked: one number raised. -/
import Derived.Test.YtcgbcbdgjhnlaaaVStrG
import Derived.Test.YtcgbcbdgjhnlaaaVStrO
namespace Go.Proofs.Ytcgbcbdgjhnlaaa
open Go.RowKit

def natV (n : Nat) : Value := .int .i64 n
def rowV (g : Nat) (xs : List Nat) : Value := .slice (some ⟨g, 0, none⟩) xs.length xs.length
def rowO (g : Nat) (xs : List Nat) : Own := ⟨rowV g xs, 3, 1, xs.length, xs.map natV⟩
def outO (g0 N : Nat) (cells : List Value) : Own := ⟨.slice (some ⟨g0, 0, none⟩) N N, 105, 1, N, cells⟩
def nilsV (n : Nat) : List Value := List.replicate n (.slice none 0 0)
def numsO (g0 N : Nat) (gs : List Nat) (num : Num) : List Own := outO g0 N (List.zipWith rowV gs num ++ nilsV (N - num.length)) :: List.zipWith rowO gs num
theorem zip_at {α : Type} (f : Nat → List Nat → α) {gs : List Nat} {num : Num} {i g : Nat} {r : List Nat} (h1 : gs[i]? = some g) (h2 : num[i]? = some r) : (List.zipWith f gs num)[i]? = some (f g r) := by
  rw [List.getElem?_zipWith, h1, h2]
theorem zip_set {α : Type} (f : Nat → List Nat → α) : ∀ {gs : List Nat} {num : Num} {i g : Nat} (r' : List Nat), gs[i]? = some g → List.zipWith f gs (num.set i r') = (List.zipWith f gs num).set i (f g r')
  | [], _, _, _, _, h => by cases h
  | g :: gs, [], i, _, r', h => by simp
  | g :: gs, r :: num, 0, g', r', h => by
    obtain rfl : g = g' := Option.some.inj h
    rfl
  | g :: gs, r :: num, i + 1, g', r', h => by
    show f g r :: List.zipWith f gs (num.set i r') = f g r :: (List.zipWith f gs num).set i (f g' r')
    rw [zip_set f r' (show gs[i]? = some g' from h)]
theorem set_same {α : Type} {l : List α} {i : Nat} {x : α} (h : l[i]? = some x) : l.set i x = l := by
  apply List.ext_getElem?
  intro j
  rw [List.getElem?_set]
  split
  · rename_i e
    subst e
    rw [h, if_pos (List.getElem?_eq_some_iff.1 h).1]
  · rfl
theorem nums_row {g0 N : Nat} {gs : List Nat} {num : Num} {i g : Nat} {r : List Nat} (h1 : gs[i]? = some g) (h2 : num[i]? = some r) : (numsO g0 N gs num)[i + 1]? = some (rowO g r) := zip_at rowO h1 h2
theorem nums_cell {N : Nat} {gs : List Nat} {num : Num} {i g : Nat} {r : List Nat} (h1 : gs[i]? = some g) (h2 : num[i]? = some r) : (List.zipWith rowV gs num ++ nilsV (N - num.length))[i]? = some (rowV g r) := by
  rw [List.getElem?_append_left (by rw [List.length_zipWith]; exact Nat.lt_min.2 ⟨(List.getElem?_eq_some_iff.1 h1).1, (List.getElem?_eq_some_iff.1 h2).1⟩)]
  exact zip_at rowV h1 h2
theorem nums_set {g0 N : Nat} {gs : List Nat} {num : Num} {i g k : Nat} {r : List Nat} {x : Nat} (h1 : gs[i]? = some g) (h2 : num[i]? = some r) (hk : k < r.length) :
    (numsO g0 N gs num).set (i + 1) { rowO g r with cs := (r.map natV).take k ++ [natV x] ++ (r.map natV).drop (k + 1) } = numsO g0 N gs (setN num (i, k) x) := by
  have e1 : setN num (i, k) x = num.set i (r.set k x) := by
    unfold setN
    rw [h2]; rfl
  have e2 : ({ rowO g r with cs := (r.map natV).take k ++ [natV x] ++ (r.map natV).drop (k + 1) } : Own) = rowO g (r.set k x) := by
    rw [set_map natV x hk]
    unfold rowO rowV
    rw [List.length_set]
  have e3 : rowV g (r.set k x) = rowV g r := by unfold rowV; rw [List.length_set]
  rw [e2, e1]
  show outO g0 N _ :: (List.zipWith rowO gs num).set i _ = outO g0 N _ :: List.zipWith rowO gs (num.set i (r.set k x))
  rw [zip_set rowO _ h1, zip_set rowV _ h1, e3, set_same (zip_at rowV h1 h2), List.length_set]
theorem getN_at {num : Num} {s : Spot} {r : List Nat} {x : Nat} (h1 : num[s.1]? = some r) (h2 : r[s.2]? = some x) : getN num s = x := by
  unfold getN
  rw [h1, Option.getD_some, h2, Option.getD_some]
/-- A place of the numbers. -/
def InN (num : Num) (s : Spot) : Prop := ∃ r x, num[s.1]? = some r ∧ r[s.2]? = some x ∧ x ≤ 4000000000000000000
set_option maxRecDepth 20000 in
set_option maxHeartbeats 16000000 in
theorem rise_vc {B : Base} {σ : List (List PV)} {W : PW} {N g0 : Nat} {gs : List Nat} {num : Num} (hg : gs.length = N) (hn : num.length = N) (e : EdgeS) (hf : InN num e.fs) (ht : InN num e.ts) {K : GV → GS → Prop}
    (hK : ∀ W', W.Le W' → K (.v (.bool (riseN num e).2)) ⟨σ, numsO g0 N gs (riseN num e).1, W'⟩) : CallVC Try.prog B 154 [.v (.slice (some ⟨g0, 0, none⟩) N N), .ag ((edgeC e).map .v)] [] ⟨σ, numsO g0 N gs num, W⟩ K := by
  obtain ⟨⟨f1, f2⟩, ⟨t1, t2⟩, ab⟩ := e
  obtain ⟨rf, y, hf1, hf2, hf3⟩ := hf
  obtain ⟨rt, x, ht1, ht2, ht3⟩ := ht
  have gf := getN_at (s := (f1, f2)) hf1 hf2
  have gt := getN_at (s := (t1, t2)) ht1 ht2
  dsimp only at hf1 hf2 ht1 ht2
  have lf1 := (List.getElem?_eq_some_iff.1 hf1).1
  have lf2 := (List.getElem?_eq_some_iff.1 hf2).1
  have lt1 := (List.getElem?_eq_some_iff.1 ht1).1
  have lt2 := (List.getElem?_eq_some_iff.1 ht2).1
  obtain ⟨hgf, ef⟩ : ∃ g, gs[f1]? = some g := ⟨_, List.getElem?_eq_getElem (by omega)⟩
  obtain ⟨hgt, et⟩ : ∃ g, gs[t1]? = some g := ⟨_, List.getElem?_eq_getElem (by omega)⟩
  have hrise : riseN num ⟨(f1, f2), (t1, t2), ab⟩ = if x + (if ab = true then 1 else 0) ≤ y then (num, false) else (setN num (f1, f2) (x + (if ab = true then 1 else 0)), true) := by
    unfold riseN leastN
    show (if getN num (t1, t2) + (if ab = true then 1 else 0) ≤ getN num (f1, f2) then (num, false) else (setN num (f1, f2) (getN num (t1, t2) + (if ab = true then 1 else 0)), true)) = _
    rw [gf, gt]
  rw [hrise] at hK
  have ct : ((rt.map natV))[t2]? = some (natV x) := by rw [List.getElem?_map, ht2]; rfl
  have cf : ((rf.map natV))[f2]? = some (natV y) := by rw [List.getElem?_map, hf2]; rfl
  refine call_frame rfl fun W1 ex l1 => ?_
  refine call_inl hmix Try.func154 r154 (by kernel_rfl) (vs := [.slice (some ⟨g0, 0, none⟩) N N, .agg ⟨edgeC ⟨(f1, f2), (t1, t2), ab⟩⟩]) rfl rfl fun rc => ?_
  refine ⟨⟨by omega, by show (t1 : Int) < N; omega⟩, _, rfl, rowV hgt rt, .inr ⟨0, outO g0 N _, ⟨g0, 0, none⟩, N, N, t1 * 1, rfl, rfl, rfl, by rw [Nat.mul_one]; exact nums_cell et ht1⟩, ?_⟩
  refine ⟨⟨by omega, by show (t2 : Int) < rt.length; omega⟩, _, rfl, natV x, .inr ⟨t1 + 1, rowO hgt rt, ⟨hgt, 0, none⟩, rt.length, rt.length, t2 * 1, nums_row et ht1, rfl, rfl, by rw [Nat.mul_one]; exact ct⟩, ?_⟩
  have inc : ((x + 1 : Nat) : Int) = IntKind.i64.wrap ((x : Int) + 1) := by rw [i64_in ((x : Int) + 1) ⟨by omega, by omega⟩]; rfl
  cases ab with
  | true =>
    have hK : ∀ W', W.Le W' → K (.v (.bool (if x + 1 ≤ y then (num, false) else (setN num (f1, f2) (x + 1), true)).2)) ⟨σ, numsO g0 N gs (if x + 1 ≤ y then (num, false) else (setN num (f1, f2) (x + 1), true)).1, W'⟩ := hK
    clear hrise
    refine ⟨rfl, ((x + 1 : Nat) : Int), inc, ?_⟩
    clear inc
    obtain ⟨z, hz⟩ : ∃ z, x + 1 = z := ⟨_, rfl⟩
    rw [hz] at hK ⊢
    refine ⟨⟨by omega, by show (f1 : Int) < N; omega⟩, _, rfl, rowV hgf rf, .inr ⟨0, outO g0 N _, ⟨g0, 0, none⟩, N, N, f1 * 1, rfl, rfl, rfl, by rw [Nat.mul_one]; exact nums_cell ef hf1⟩, ?_⟩
    refine ⟨⟨by omega, by show (f2 : Int) < rf.length; omega⟩, _, rfl, natV y, .inr ⟨f1 + 1, rowO hgf rf, ⟨hgf, 0, none⟩, rf.length, rf.length, f2 * 1, nums_row ef hf1, rfl, rfl, by rw [Nat.mul_one]; exact cf⟩, ?_⟩
    refine ⟨rfl, br_split (fun hq => ?_) (fun hq => ?_)⟩
    · have hq : (y : Int) ≥ (z : Nat) := hq
      rw [if_pos (by omega)] at hK
      exact ⟨_, rfl, _, rfl, fun W2 l2 => hK W2 l2⟩
    · have hq : ¬ (y : Int) ≥ (z : Nat) := hq
      rw [if_neg (by omega)] at hK
      refine ⟨⟨by omega, by show (f1 : Int) < N; omega⟩, _, rfl, rowV hgf rf, .inr ⟨0, outO g0 N _, ⟨g0, 0, none⟩, N, N, f1 * 1, rfl, rfl, rfl, by rw [Nat.mul_one]; exact nums_cell ef hf1⟩, ?_⟩
      refine ⟨⟨by omega, by show (f2 : Int) < rf.length; omega⟩, _, rfl, ?_⟩
      refine ⟨f1 + 1, rowO hgf rf, ⟨hgf, 0, none⟩, rf.length, rf.length, f2 * 1, nums_row ef hf1, rfl, rfl, rfl, (fun u hu => by rw [List.mem_singleton.1 hu]; rfl), by rw [Nat.mul_one]; show f2 + 1 ≤ (rf.map natV).length; rw [List.length_map]; omega, rfl, ?_⟩
      have e := nums_set (g0 := g0) (N := N) (x := z) ef hf1 lf2
      refine ⟨_, rfl, _, rfl, fun W2 l2 => ?_⟩
      have hK := hK W2 l2
      dsimp only at hK
      rw [← e] at hK
      rw [Nat.mul_one]
      exact hK
  | false =>
    have hK : ∀ W', W.Le W' → K (.v (.bool (if x ≤ y then (num, false) else (setN num (f1, f2) x, true)).2)) ⟨σ, numsO g0 N gs (if x ≤ y then (num, false) else (setN num (f1, f2) x, true)).1, W'⟩ := hK
    clear hrise inc
    refine ⟨⟨by omega, by show (f1 : Int) < N; omega⟩, _, rfl, rowV hgf rf, .inr ⟨0, outO g0 N _, ⟨g0, 0, none⟩, N, N, f1 * 1, rfl, rfl, rfl, by rw [Nat.mul_one]; exact nums_cell ef hf1⟩, ?_⟩
    refine ⟨⟨by omega, by show (f2 : Int) < rf.length; omega⟩, _, rfl, natV y, .inr ⟨f1 + 1, rowO hgf rf, ⟨hgf, 0, none⟩, rf.length, rf.length, f2 * 1, nums_row ef hf1, rfl, rfl, by rw [Nat.mul_one]; exact cf⟩, ?_⟩
    refine ⟨rfl, br_split (fun hq => ?_) (fun hq => ?_)⟩
    · have hq : (y : Int) ≥ (x : Nat) := hq
      rw [if_pos (by omega)] at hK
      exact ⟨_, rfl, _, rfl, fun W2 l2 => hK W2 l2⟩
    · have hq : ¬ (y : Int) ≥ (x : Nat) := hq
      rw [if_neg (by omega)] at hK
      refine ⟨⟨by omega, by show (f1 : Int) < N; omega⟩, _, rfl, rowV hgf rf, .inr ⟨0, outO g0 N _, ⟨g0, 0, none⟩, N, N, f1 * 1, rfl, rfl, rfl, by rw [Nat.mul_one]; exact nums_cell ef hf1⟩, ?_⟩
      refine ⟨⟨by omega, by show (f2 : Int) < rf.length; omega⟩, _, rfl, ?_⟩
      refine ⟨f1 + 1, rowO hgf rf, ⟨hgf, 0, none⟩, rf.length, rf.length, f2 * 1, nums_row ef hf1, rfl, rfl, rfl, (fun u hu => by rw [List.mem_singleton.1 hu]; rfl), by rw [Nat.mul_one]; show f2 + 1 ≤ (rf.map natV).length; rw [List.length_map]; omega, rfl, ?_⟩
      have e := nums_set (g0 := g0) (N := N) (x := x) ef hf1 lf2
      refine ⟨_, rfl, _, rfl, fun W2 l2 => ?_⟩
      have hK := hK W2 l2
      dsimp only at hK
      rw [← e] at hK
      rw [Nat.mul_one]
      exact hK
end Go.Proofs.Ytcgbcbdgjhnlaaa

