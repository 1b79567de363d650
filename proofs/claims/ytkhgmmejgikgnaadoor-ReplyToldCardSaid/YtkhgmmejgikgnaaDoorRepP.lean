/- The printer of layer 6: a strings.Builder within a struct, written in its callers' place. -/
import Derived.Test.YtkhgmmejgikgnaaDoorRepO
namespace Go.Proofs.YtkhgmmejgikgnaaDoor
open Go.RowKit

theorem prn_lies : liesAt Tryd.prog Tryd.prog.depth 128 (2 / Tryd.prog.cellsOf 128) 0 99 1 = true := by kernel_rfl
theorem bldr_info : ∃ j, Tryd.prog.info? 99 = some j ∧ j.size = 2 := by
  have h : (Tryd.prog.info? 99).map (fun i => i.size) = some 2 := by kernel_rfl
  exact Option.map_eq_some_iff.1 h
set_option maxHeartbeats 1000000 in
set_option maxRecDepth 100000 in
/-- The printer's builder notes its own address: it lies at the front of the printer's variable. -/
theorem prn_copy (b : Nat) (w : World) (h0 : w.cell? ⟨b, 0, none⟩ = some (.pointer none)) (hsh : w.shape? b = some (128, 2)) (hfz : w.frozen? ⟨b, 0, none⟩ = false) :
    Calls Tryd.prog 109 #[.pointer (some ⟨b, 0, none⟩)] w fun e w' => e = .returned (.tuple #[]) ∧ w' = w.setCell ⟨b, 0, none⟩ (.pointer (some ⟨b, 0, none⟩)) := by
  obtain ⟨j, hj, hjs⟩ := bldr_info
  go_enter Tryd.func109, Tryd.ntmps109
  go_wp2
  rw [Lib.run_to_unsafe w ⟨b, 0, none⟩ Tryd.underlying97 Tryd.underlying180 hj (by rw [hjs]; decide) hsh (Nat.zero_lt_succ 1)]
  simp only [Result.andThen]
  rw [Oper.upon_value]
  go_wp2
  rw [run_callFunc_extern Tryd.func158 (by kernel_rfl) (by kernel_rfl) (by kernel_rfl) (e := Extern.AbiNoEscape.same) (by kernel_rfl)]
  rw [Lib.run_noEscape]
  simp only [Result.andThen]
  rw [Oper.upon_value]
  go_wp2
  rw [Lib.run_from_unsafe w ⟨b, 0, none⟩ Tryd.underlying180 Tryd.underlying97 hj hsh prn_lies]
  simp only [Result.andThen]
  rw [Oper.upon_value]
  go_wp2
  go_end0
  exact ⟨rfl, rfl⟩
def prO (b : Nat) (p v : Value) : Own := ⟨.slice (some ⟨b, 0, none⟩) 2 2, 128, 1, 2, [p, v]⟩
section
variable {B : Base} {σ : List (List PV)} {O : List Own} {W : PW} {K : GV → GS → Prop}
theorem prn_check {i b : Nat} {p v : Value} (hi : O[i]? = some (prO b p v)) (hu : Used b p) (hK : K (.v (.tuple #[])) ⟨σ, O.set i (prO b (bldP b) v), W⟩) : CallVC Tryd.prog B 109 [.v (bldP b)] [] ⟨σ, O, W⟩ K := by
  refine ⟨⟨_, Tryd.func109, by kernel_rfl, by kernel_rfl⟩, fun ρ w hst => ?_⟩
  have L : Lays.n240 Tryd.prog Tryd.lays156_ren := { Tryd.lays156 with }
  obtain ⟨h1, _⟩ := hst.own i _ hi
  rcases h1.2 with ⟨h3, _⟩ | ⟨g, cap, cur, hv, _, hg, hnc, hcm, hcs, htake⟩
  · cases h3
  obtain ⟨rfl, rfl⟩ : b = g ∧ 2 = cap := by simpa [prO] using hv
  have hcs : cur.size = 2 := hcs
  have hcur : cur = #[p, v] := by
    apply Array.ext'
    have : cur.toList.take 2 = [p, v] := htake
    rw [List.take_of_length_le (by rw [Array.length_toList]; omega)] at this
    exact this
  subst hcur
  have hg : w.heap[b]? = some (.cells #[p, v] 128 (0, 0)) := hg
  have h0 : w.cell? ⟨b, 0, none⟩ = some p := by simp [World.cell?, hg]
  have hlt := (List.getElem?_eq_some_iff.1 hi).1
  rcases hu with rfl | rfl
  · refine (prn_copy b w h0 (by simp [World.shape?, hg]) (by simp [World.frozen?, hg])).mono fun e w' ⟨he, hw⟩ => ?_
    subst hw
    refine ⟨.v (.tuple #[]), ⟨σ, O.set i (prO b (bldP b) v), W⟩, ρ, he, fun _ _ => rfl, ⟨Nat.le_refl _, PW.Le.refl _, ⟨fun _ hk => rfl, fun hk => by cases hk⟩⟩, trivial, ?_, hK⟩
    refine hst.setOwn (o' := prO b (bldP b) v) hi ⟨rfl, rfl, rfl, by simp [World.setCell], fun k _ hk => Below.heap_setCell _ _ _ _ (fun e => hk (by simp [e, prO, Value.ownBlock]))⟩ ?_ (.inl rfl)
    refine ⟨rfl, .inr ⟨b, 2, #[bldP b, v], rfl, Nat.zero_le _, ?_, Nat.le_refl _, hcm, rfl, rfl⟩⟩
    simp [World.setCell, Array.getElem?_modify, hg, bldP, prO]
  · refine (Any.Builder_copyCheck_used L Tryd.Builder_Extra_156.toX72 b w h0).mono fun e w' ⟨he, hw⟩ => ?_
    subst hw
    have hO : O.set i (prO b (bldP b) v) = O := by
      apply List.ext_getElem?
      intro k
      by_cases hk : i = k
      · subst hk; rw [List.getElem?_set_self hlt, hi]
      · rw [List.getElem?_set_ne hk]
    rw [hO] at hK
    exact ⟨.v (.tuple #[]), ⟨σ, O, W⟩, ρ, he, fun _ _ => rfl, Grow.refl _ _, trivial, hst, hK⟩
theorem prn_write {i j b : Nat} {p v : Value} {l s : List UInt8} (hi : O[i]? = some (prO b p v)) (hj : O[j]? = some (bufO v l)) (hij : i ≠ j) (hu : Used b p) (hlen : l.length + s.length ≤ 140737488355328)
    (hK : ∀ A c, (Value.slice A (l ++ s).length c = .slice none 0 0 ↔ v = .slice none 0 0 ∧ s.length = 0) → K (.v (.tuple #[.int .i64 s.length, .nilIface])) ⟨σ, (O.set i (prO b (bldP b) (.slice A (l ++ s).length c))).set j (bufO (.slice A (l ++ s).length c) (l ++ s)), W⟩) :
    CallVC Tryd.prog B 114 [.v (bldP b), .v (strV s)] [] ⟨σ, O, W⟩ K := by
  have hil := (List.getElem?_eq_some_iff.1 hi).1
  refine call_inl (vs := [bldP b, strV s]) hmix Tryd.func114 r114 (by kernel_rfl) rfl rfl fun rc => ?_
  refine prn_check hi hu ?_
  have hi1 : (O.set i (prO b (bldP b) v))[i]? = some (prO b (bldP b) v) := List.getElem?_set_self hil
  have hj1 : (O.set i (prO b (bldP b) v))[j]? = some (bufO v l) := by rw [List.getElem?_set_ne hij]; exact hj
  refine ⟨v, .inr ⟨i, prO b (bldP b) v, ⟨b, 0, none⟩, 2, 2, 1, hi1, rfl, rfl, rfl⟩, ?_⟩
  have hm : l.length + s.length ≤ maxLen := by have : (140737488355328 : Nat) ≤ maxLen := by decide
                                               omega
  obtain ⟨ti, e0, e1, e2, e3⟩ := info_parts Tryd.Builder_Extra_156.infoByte
  refine bld_app (j := j) (n := l.length) (xs := l.map byteV) (s := ⟨⟨s⟩⟩) rfl Tryd.underlying33 Tryd.underlying9 e0 e1 e2 e3 rfl rfl hj1 hm hlen rfl fun A c hn => ?_
  have hi2 : ((O.set i (prO b (bldP b) v)).set j ⟨.slice A (l.length + s.length) c, 5, 1, l.length + s.length, l.map byteV ++ Lib.strCells ⟨⟨s⟩⟩⟩)[i]? = some (prO b (bldP b) v) := by rw [List.getElem?_set_ne (Ne.symm hij)]; exact hi1
  refine ⟨i, prO b (bldP b) v, ⟨b, 0, none⟩, 2, 2, 1, hi2, rfl, rfl, rfl, fun u hu => ?_, Nat.le_refl 2, rfl, ?_⟩
  · rw [List.mem_singleton.1 hu]; rfl
  refine ⟨_, rfl, ?_⟩
  have h := hK A c (by rw [List.length_append]; exact hn)
  rw [List.length_append] at h
  have e : bufO (.slice A (l.length + s.length) c) (l ++ s) = ⟨.slice A (l.length + s.length) c, 5, 1, l.length + s.length, l.map byteV ++ Lib.strCells ⟨⟨s⟩⟩⟩ := by
    unfold bufO
    rw [List.length_append, List.map_append]; rfl
  rw [e, ← set3 hij (prO b (bldP b) v)] at h
  exact h

theorem prn_len {i b n c : Nat} {p : Value} {A : Option Addr} (hi : O[i]? = some (prO b p (.slice A n c))) (hK : K (.v (.int .i64 n)) ⟨σ, O, W⟩) : CallVC Tryd.prog B 92 [.v (bldP b)] [] ⟨σ, O, W⟩ K := by
  refine call_inl (vs := [bldP b]) hmix Tryd.func92 r92 (by kernel_rfl) rfl rfl fun rc => ?_
  exact ⟨.slice A n c, .inr ⟨i, _, ⟨b, 0, none⟩, 2, 2, 1, hi, rfl, rfl, rfl⟩, _, rfl, hK⟩

/-- String, the first time: the buffer is not written from now on. -/
theorem prn_str {i j b c : Nat} {p : Value} {A : Option Addr} {l : List UInt8} (hex : B.ex = []) (hi : O[i]? = some (prO b p (.slice A l.length c))) (hj : O[j]? = some (bufO (.slice A l.length c) l)) (hl : l ≠ []) (h63 : l.length ≤ 9223372036854775807)
    (hK : ∀ g W', A = some ⟨g, 0, none⟩ → c ≠ 0 → W.Le W' → Frz W' 5 g l → K (.v (strV l)) ⟨σ, O.eraseIdx j, W'⟩) : CallVC Tryd.prog B 65 [.v (bldP b)] [] ⟨σ, O, W⟩ K := by
  refine call_inl (vs := [bldP b]) hmix Tryd.func65 r65 (by kernel_rfl) rfl rfl fun rc => ?_
  have hl0 : l.length ≠ 0 := by simpa using hl
  refine ⟨.slice A l.length c, .inr ⟨i, _, ⟨b, 0, none⟩, 2, 2, 1, hi, rfl, rfl, rfl⟩, .slice A l.length c, .inr ⟨i, _, ⟨b, 0, none⟩, 2, 2, 1, hi, rfl, rfl, rfl⟩, ?_⟩
  refine bld_sd (j := j) (ow := bufO (.slice A l.length c) l) rfl rfl hj hl0 fun g c' hv hc => ?_
  obtain ⟨rfl, rfl⟩ : A = some ⟨g, 0, none⟩ ∧ c = c' := by simpa [bufO] using hv
  refine bld_us1 (j := j) (e := 5) (g := g) (c := c) (l := l) rfl Tryd.underlying142 Tryd.Builder_Extra_156.cellsByte hex rfl rfl hj hl h63 rfl fun W' hle hF => ?_
  exact ⟨_, rfl, hK g W' rfl hc hle hF⟩
theorem prn_wbyte {i j b : Nat} {p v : Value} {l : List UInt8} {n : Int} (c : UInt8) (hn : n = c.toNat) (hi : O[i]? = some (prO b p v)) (hj : O[j]? = some (bufO v l)) (hij : i ≠ j) (hu : Used b p) (hlen : l.length + 1 ≤ 100000000)
    (hK : ∀ A d W', W.Le W' → K (.v .nilIface) ⟨σ, (O.set i (prO b (bldP b) (.slice A (l ++ [c]).length d))).set j (bufO (.slice A (l ++ [c]).length d) (l ++ [c])), W'⟩) :
    CallVC Tryd.prog B 63 [.v (bldP b), .v (.int .u8 n)] [] ⟨σ, O, W⟩ K := by
  subst hn
  have hil := (List.getElem?_eq_some_iff.1 hi).1
  refine call_inl (vs := [bldP b, .int .u8 c.toNat]) hmix Tryd.func63 r63 (by kernel_rfl) rfl rfl fun rc => ?_
  refine prn_check hi hu ?_
  have hi1 : (O.set i (prO b (bldP b) v))[i]? = some (prO b (bldP b) v) := List.getElem?_set_self hil
  have hj1 : (O.set i (prO b (bldP b) v))[j]? = some (bufO v l) := by rw [List.getElem?_set_ne hij]; exact hj
  refine ⟨v, .inr ⟨i, prO b (bldP b) v, ⟨b, 0, none⟩, 2, 2, 1, hi1, rfl, rfl, rfl⟩, rfl, .inl fun g W1 l1 hr => ?_⟩
  have hm : (100000000 : Nat) ≤ maxLen := by decide
  refine ⟨j, bufO v l, [byteV c], hj1, rfl, rfl, rfl, rfl, fun u hu => by rw [List.mem_singleton.1 hu]; rfl, fun _ => ⟨_, rfl, hr.o⟩, by show l.length + 1 ≤ _; omega, by show (l.length + 1) * 1 ≤ _; omega, rfl, @fun A d _ => ?_⟩
  have hi2 : ((O.set i (prO b (bldP b) v)).set j ⟨.slice A ((bufO v l).n + 1) d, 5, 1, (bufO v l).n + 1, (bufO v l).cs ++ [byteV c]⟩)[i]? = some (prO b (bldP b) v) := by rw [List.getElem?_set_ne (Ne.symm hij)]; exact hi1
  refine ⟨i, prO b (bldP b) v, ⟨b, 0, none⟩, 2, 2, 1, hi2, rfl, rfl, rfl, fun u hu => ?_, Nat.le_refl 2, rfl, ?_⟩
  · rw [List.mem_singleton.1 hu]; rfl
  refine ⟨_, rfl, ?_⟩
  have h := hK A d W1 l1
  rw [List.length_append] at h
  have e : bufO (.slice A (l.length + 1) d) (l ++ [c]) = ⟨.slice A (l.length + 1) d, 5, 1, l.length + 1, l.map byteV ++ [byteV c]⟩ := by
    unfold bufO
    rw [List.length_append, List.map_append]; rfl
  rw [show [c].length = 1 from rfl, e, ← set3 hij (prO b (bldP b) v)] at h
  exact h
end
theorem prn_info : ∃ i z, Tryd.prog.info? 128 = some i ∧ i.zero = some z ∧ z.cells.toList = [.pointer none, .slice none 0 0] := by
  have h : ((Tryd.prog.info? 128).bind fun i => i.zero.map fun z => z.cells.toList) = some [.pointer none, .slice none 0 0] := by kernel_rfl
  obtain ⟨i, hi, h⟩ := Option.bind_eq_some_iff.1 h
  obtain ⟨z, hz, h⟩ := Option.map_eq_some_iff.1 h
  exact ⟨i, z, hi, hz, h⟩
end Go.Proofs.YtkhgmmejgikgnaaDoor
