/- strings.Builder: WriteString, Len, String, walked in their callers' place. -/
import Derived.Test.YtkhgmmejgikgnaaDoorBld
import Derived.Test.YtkhgmmejgikgnaaDoorCodeB
namespace Go.Proofs.YtkhgmmejgikgnaaDoor
open Go.RowKit

/-- A builder's variable: whether it has been used, its buffer. -/
def bldO (b : Nat) (p v : Value) : Own := ⟨.slice (some ⟨b, 0, none⟩) 2 2, 99, 1, 2, [p, v]⟩
/-- Its buffer. -/
def bufO (v : Value) (l : List UInt8) : Own := ⟨v, 5, 1, l.length, l.map byteV⟩
def bldP (b : Nat) : Value := .pointer (some ⟨b, 0, none⟩)
def Used (b : Nat) (p : Value) : Prop := p = .pointer none ∨ p = bldP b

section
variable {B : Base} {σ : List (List PV)} {O : List Own} {W : PW} {K : GV → GS → Prop}

theorem bld_check {i b : Nat} {p v : Value} (hi : O[i]? = some (bldO b p v)) (hu : Used b p) (hK : K (.v (.tuple #[])) ⟨σ, O.set i (bldO b (bldP b) v), W⟩) : CallVC Tryd.prog B 109 [.v (bldP b)] [] ⟨σ, O, W⟩ K := by
  refine ⟨⟨_, Tryd.func109, by kernel_rfl, by kernel_rfl⟩, fun ρ w hst => ?_⟩
  have L : Lays.n240 Tryd.prog Tryd.lays156_ren := { Tryd.lays156 with }
  obtain ⟨h1, _⟩ := hst.own i _ hi
  rcases h1.2 with ⟨h3, _⟩ | ⟨g, cap, cur, hv, _, hg, hnc, hcm, hcs, htake⟩
  · cases h3
  obtain ⟨rfl, rfl⟩ : b = g ∧ 2 = cap := by simpa [bldO] using hv
  have hcs : cur.size = 2 := hcs
  have hcur : cur = #[p, v] := by
    apply Array.ext'
    have : cur.toList.take 2 = [p, v] := htake
    rw [List.take_of_length_le (by rw [Array.length_toList]; omega)] at this
    exact this
  subst hcur
  have hg : w.heap[b]? = some (.cells #[p, v] 99 (0, 0)) := hg
  have h0 : w.cell? ⟨b, 0, none⟩ = some p := by simp [World.cell?, hg]
  have hlt := (List.getElem?_eq_some_iff.1 hi).1
  rcases hu with rfl | rfl
  · refine (Any.Builder_copyCheck_fresh L Tryd.Builder_Extra_156.toX72 b w h0 (by simp [World.shape?, hg]; rfl) (by simp [World.frozen?, hg])).mono fun e w' ⟨he, hw⟩ => ?_
    subst hw
    refine ⟨.v (.tuple #[]), ⟨σ, O.set i (bldO b (bldP b) v), W⟩, ρ, he, fun _ _ => rfl, ⟨Nat.le_refl _, PW.Le.refl _, ⟨fun _ hk => rfl, fun hk => by cases hk⟩⟩, trivial, ?_, hK⟩
    refine hst.setOwn (o' := bldO b (bldP b) v) hi ⟨rfl, rfl, rfl, by simp [World.setCell], fun k _ hk => Below.heap_setCell _ _ _ _ (fun e => hk (by simp [e, bldO, Value.ownBlock]))⟩ ?_ (.inl rfl)
    refine ⟨rfl, .inr ⟨b, 2, #[bldP b, v], rfl, Nat.zero_le _, ?_, Nat.le_refl _, hcm, rfl, rfl⟩⟩
    simp [World.setCell, Array.getElem?_modify, hg, bldP, bldO]
  · refine (Any.Builder_copyCheck_used L Tryd.Builder_Extra_156.toX72 b w h0).mono fun e w' ⟨he, hw⟩ => ?_
    subst hw
    have hO : O.set i (bldO b (bldP b) v) = O := by
      apply List.ext_getElem?
      intro k
      by_cases hk : i = k
      · subst hk; rw [List.getElem?_set_self hlt, hi]
      · rw [List.getElem?_set_ne hk]
    rw [hO] at hK
    exact ⟨.v (.tuple #[]), ⟨σ, O, W⟩, ρ, he, fun _ _ => rfl, Grow.refl _ _, trivial, hst, hK⟩
theorem set3 {α : Type} {O : List α} {i j : Nat} (h : i ≠ j) (x y z : α) : ((O.set i x).set j y).set i z = (O.set i z).set j y := by
  rw [List.set_comm _ _ (Ne.symm h), List.set_set]

theorem bld_write {i j b : Nat} {p v : Value} {l s : List UInt8} (hi : O[i]? = some (bldO b p v)) (hj : O[j]? = some (bufO v l)) (hij : i ≠ j) (hu : Used b p) (hlen : l.length + s.length ≤ 140737488355328)
    (hK : ∀ A c, (Value.slice A (l ++ s).length c = .slice none 0 0 ↔ v = .slice none 0 0 ∧ s.length = 0) → K (.v (.tuple #[.int .i64 s.length, .nilIface])) ⟨σ, (O.set i (bldO b (bldP b) (.slice A (l ++ s).length c))).set j (bufO (.slice A (l ++ s).length c) (l ++ s)), W⟩) :
    CallVC Tryd.prog B 114 [.v (bldP b), .v (strV s)] [] ⟨σ, O, W⟩ K := by
  have hil := (List.getElem?_eq_some_iff.1 hi).1
  refine call_inl (vs := [bldP b, strV s]) hmix Tryd.func114 r114 (by kernel_rfl) rfl rfl fun rc => ?_
  refine bld_check hi hu ?_
  have hi1 : (O.set i (bldO b (bldP b) v))[i]? = some (bldO b (bldP b) v) := List.getElem?_set_self hil
  have hj1 : (O.set i (bldO b (bldP b) v))[j]? = some (bufO v l) := by rw [List.getElem?_set_ne hij]; exact hj
  refine ⟨v, .inr ⟨i, bldO b (bldP b) v, ⟨b, 0, none⟩, 2, 2, 1, hi1, rfl, rfl, rfl⟩, ?_⟩
  have hm : l.length + s.length ≤ maxLen := by have : (140737488355328 : Nat) ≤ maxLen := by decide
                                               omega
  obtain ⟨ti, e0, e1, e2, e3⟩ := info_parts Tryd.Builder_Extra_156.infoByte
  refine bld_app (j := j) (n := l.length) (xs := l.map byteV) (s := ⟨⟨s⟩⟩) rfl Tryd.underlying33 Tryd.underlying9 e0 e1 e2 e3 rfl rfl hj1 hm hlen rfl fun A c hn => ?_
  have hi2 : ((O.set i (bldO b (bldP b) v)).set j ⟨.slice A (l.length + s.length) c, 5, 1, l.length + s.length, l.map byteV ++ Lib.strCells ⟨⟨s⟩⟩⟩)[i]? = some (bldO b (bldP b) v) := by rw [List.getElem?_set_ne (Ne.symm hij)]; exact hi1
  refine ⟨i, bldO b (bldP b) v, ⟨b, 0, none⟩, 2, 2, 1, hi2, rfl, rfl, rfl, fun u hu => ?_, Nat.le_refl 2, rfl, ?_⟩
  · rw [List.mem_singleton.1 hu]; rfl
  refine ⟨_, rfl, ?_⟩
  have h := hK A c (by rw [List.length_append]; exact hn)
  rw [List.length_append] at h
  have e : bufO (.slice A (l.length + s.length) c) (l ++ s) = ⟨.slice A (l.length + s.length) c, 5, 1, l.length + s.length, l.map byteV ++ Lib.strCells ⟨⟨s⟩⟩⟩ := by
    unfold bufO
    rw [List.length_append, List.map_append]; rfl
  rw [e, ← set3 hij (bldO b (bldP b) v)] at h
  exact h

theorem bld_len {i b n c : Nat} {p : Value} {A : Option Addr} (hi : O[i]? = some (bldO b p (.slice A n c))) (hK : K (.v (.int .i64 n)) ⟨σ, O, W⟩) : CallVC Tryd.prog B 92 [.v (bldP b)] [] ⟨σ, O, W⟩ K := by
  refine call_inl (vs := [bldP b]) hmix Tryd.func92 r92 (by kernel_rfl) rfl rfl fun rc => ?_
  exact ⟨.slice A n c, .inr ⟨i, _, ⟨b, 0, none⟩, 2, 2, 1, hi, rfl, rfl, rfl⟩, _, rfl, hK⟩

/-- String, the first time: the buffer is not written from now on. -/
theorem bld_str {i j b c : Nat} {p : Value} {A : Option Addr} {l : List UInt8} (hex : B.ex = []) (hi : O[i]? = some (bldO b p (.slice A l.length c))) (hj : O[j]? = some (bufO (.slice A l.length c) l)) (hl : l ≠ []) (h63 : l.length ≤ 9223372036854775807)
    (hK : ∀ g W', A = some ⟨g, 0, none⟩ → c ≠ 0 → W.Le W' → Frz W' 5 g l → K (.v (strV l)) ⟨σ, O.eraseIdx j, W'⟩) : CallVC Tryd.prog B 65 [.v (bldP b)] [] ⟨σ, O, W⟩ K := by
  refine call_inl (vs := [bldP b]) hmix Tryd.func65 r65 (by kernel_rfl) rfl rfl fun rc => ?_
  have hl0 : l.length ≠ 0 := by simpa using hl
  refine ⟨.slice A l.length c, .inr ⟨i, _, ⟨b, 0, none⟩, 2, 2, 1, hi, rfl, rfl, rfl⟩, .slice A l.length c, .inr ⟨i, _, ⟨b, 0, none⟩, 2, 2, 1, hi, rfl, rfl, rfl⟩, ?_⟩
  refine bld_sd (j := j) (ow := bufO (.slice A l.length c) l) rfl rfl hj hl0 fun g c' hv hc => ?_
  obtain ⟨rfl, rfl⟩ : A = some ⟨g, 0, none⟩ ∧ c = c' := by simpa [bufO] using hv
  refine bld_us1 (j := j) (e := 5) (g := g) (c := c) (l := l) rfl Tryd.underlying142 Tryd.Builder_Extra_156.cellsByte hex rfl rfl hj hl h63 rfl fun W' hle hF => ?_
  exact ⟨_, rfl, hK g W' rfl hc hle hF⟩
theorem bld_str0 {i b c : Nat} {p : Value} (hi : O[i]? = some (bldO b p (.slice none 0 c))) (hK : K (.v (strV [])) ⟨σ, O, W⟩) : CallVC Tryd.prog B 65 [.v (bldP b)] [] ⟨σ, O, W⟩ K := by
  refine call_inl (vs := [bldP b]) hmix Tryd.func65 r65 (by kernel_rfl) rfl rfl fun rc => ?_
  refine ⟨.slice none 0 c, .inr ⟨i, _, ⟨b, 0, none⟩, 2, 2, 1, hi, rfl, rfl, rfl⟩, .slice none 0 c, .inr ⟨i, _, ⟨b, 0, none⟩, 2, 2, 1, hi, rfl, rfl, rfl⟩, ?_⟩
  refine bld_sd0 rfl rfl ?_
  refine bld_us0 rfl rfl rfl ?_
  exact ⟨_, rfl, hK⟩
/-- .. and once more. -/
theorem bld_str2 {i b g c : Nat} {p : Value} {l : List UInt8} (hi : O[i]? = some (bldO b p (.slice (some ⟨g, 0, none⟩) l.length c))) (hl : l ≠ []) (h63 : l.length ≤ 9223372036854775807) (hc : c ≠ 0) (hF : Frz W 5 g l)
    (hK : K (.v (strV l)) ⟨σ, O, W⟩) : CallVC Tryd.prog B 65 [.v (bldP b)] [] ⟨σ, O, W⟩ K := by
  refine call_inl (vs := [bldP b]) hmix Tryd.func65 r65 (by kernel_rfl) rfl rfl fun rc => ?_
  refine ⟨_, .inr ⟨i, _, ⟨b, 0, none⟩, 2, 2, 1, hi, rfl, rfl, rfl⟩, _, .inr ⟨i, _, ⟨b, 0, none⟩, 2, 2, 1, hi, rfl, rfl, rfl⟩, ?_⟩
  refine bld_sd2 rfl rfl hc ?_
  refine bld_us2 (e := 5) rfl Tryd.underlying142 Tryd.Builder_Extra_156.cellsByte rfl rfl hF hl h63 ?_
  exact ⟨_, rfl, hK⟩
end
end Go.Proofs.YtkhgmmejgikgnaaDoor
