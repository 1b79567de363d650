/- Layer 18 (strata), the document's question whether something is declared twice, walked. No statement is proved here. -/
import Derived.Test.YtcgbcbdgjhnlaaaVStrL
import Derived.Test.YtcgbcbdgjhnlaaaVStrX
namespace Go.Proofs.Ytcgbcbdgjhnlaaa
open Go.RowKit

theorem nodup_take {α : Type} {l : List α} {i : Nat} {x : α} (hx : l[i]? = some x) (h : (l.take i).Nodup) (hn : x ∉ l.take i) : (l.take (i + 1)).Nodup := by
  rw [List.take_add_one, hx, Option.toList_some]
  exact nodup_snoc h hn
theorem nodup_pair {α : Type} {l : List α} {i k : Nat} {x y : α} (hx : l[i]? = some x) (hy : l[k]? = some y) (hik : k < i) (e : x = y) : ¬ l.Nodup := by
  intro h
  obtain ⟨h1, h2⟩ := List.getElem?_eq_some_iff.1 hx
  obtain ⟨h3, h4⟩ := List.getElem?_eq_some_iff.1 hy
  exact List.pairwise_iff_getElem.1 h k i h3 h1 hik (by rw [h2, h4, e])
theorem find_first {l : List NameD} {i : Nat} {x : NameD} (hx : l[i]? = some x) : (findD l x.1 x.2.name = i ∧ keyD x ∉ (l.map keyD).take i) ∨ (findD l x.1 x.2.name ≠ i ∧ ¬ (l.map keyD).Nodup) := by
  have hkx : (l.map keyD)[i]? = some (keyD x) := by rw [List.getElem?_map, hx]; rfl
  have hq : isN x.1 x.2.name x = true := by rw [isN_key]; exact decide_eq_true rfl
  by_cases hno : ∀ y ∈ l.take i, isN x.1 x.2.name y = false
  · refine .inl ⟨findD_yes hx hq hno, not_mem_take fun k hk y hy e => ?_⟩
    rw [List.getElem?_map] at hy
    obtain ⟨z, hz, rfl⟩ := Option.map_eq_some_iff.1 hy
    have h1 := hno z (List.mem_of_getElem? (by rw [List.getElem?_take, if_pos hk]; exact hz))
    rw [isN_key] at h1
    exact of_decide_eq_false h1 e.symm
  · have : ∃ y ∈ l.take i, isN x.1 x.2.name y = true := by
      refine Classical.byContradiction fun h => hno fun y hy => ?_
      cases hb : isN x.1 x.2.name y with
      | false => rfl
      | true => exact absurd ⟨y, hy, hb⟩ h
    obtain ⟨y, hy, hb⟩ := this
    obtain ⟨k, hk⟩ := List.mem_iff_getElem?.1 hy
    rw [List.getElem?_take] at hk
    split at hk
    · rename_i hki
      rw [isN_key] at hb
      have hb : keyD y = keyD x := of_decide_eq_true hb
      have hky : (l.map keyD)[k]? = some (keyD y) := by rw [List.getElem?_map, hk]; rfl
      have hnd := nodup_pair hkx hky hki hb.symm
      refine .inr ⟨fun e => ?_, hnd⟩
      unfold findD at e
      cases hf : l.findIdx? (isN x.1 x.2.name) with
      | none => rw [hf] at e; have e : (-1 : Int) = i := e; omega
      | some j =>
        rw [hf] at e
        have e : (j : Int) = i := e
        rw [List.findIdx?_eq_some_iff_getElem] at hf
        obtain ⟨_, _, h3⟩ := hf
        obtain ⟨h4, h5⟩ := List.getElem?_eq_some_iff.1 hk
        have h6 := h3 k (by omega)
        rw [h5, isN_key, hb] at h6
        exact h6 (decide_eq_true rfl)
    · cases hk
theorem once_is (c : ConfS) : onceS c = (decide ((c.spaces.map (·.name)).Nodup) && decide (((allD c).map keyD).Nodup) && decide ((c.scopes.map (·.name)).Nodup)) := by
  unfold onceS keysS
  rw [spaceKeys_fst]
  rfl
set_option maxRecDepth 20000 in
set_option maxHeartbeats 16000000 in
theorem twice_x (x : ConfS) (cs : List Value) (W : PW) (hB : BdC x) (hl : (allD x).length ≤ 1000000) (h : ConfR W x cs) : CallsX Try.prog 121 ⟨[.agg ⟨cs⟩]⟩ [] W fun v _ => v = .bool (!onceS x) := by
  have hC := h
  obtain ⟨sv, kv, rfl, hS, hK⟩ := h
  obtain ⟨a1, c1, rfl, _, _⟩ := hS.form
  obtain ⟨a2, c2, rfl, _, _⟩ := hK.form
  have hn := hB.1
  have hm := hB.2.1
  obtain ⟨R, hR⟩ : ∃ R, onceS x = R := ⟨_, rfl⟩
  have hdef := once_is x
  rw [hR] at hdef
  have no1 : ¬ (x.spaces.map (·.name)).Nodup → R = false := fun h => by rw [hdef, decide_eq_false h]; rfl
  have no2 : ¬ ((allD x).map keyD).Nodup → R = false := fun h => by rw [hdef, decide_eq_false h, Bool.and_false, Bool.false_and]
  have no3 : ¬ (x.scopes.map (·.name)).Nodup → R = false := fun h => by rw [hdef, decide_eq_false h, Bool.and_false]
  rw [hR]
  refine pureX hmix Try.func121 r121 (by kernel_rfl) [.agg ⟨[.slice a1 x.spaces.length c1, .slice a2 x.scopes.length c2]⟩] rfl ?_
  refine ⟨Nat, fun i => [(3, .v (.int .i64 i))], fun _ => [[.v (.slice a1 x.spaces.length c1), .v (.slice a2 x.scopes.length c2)]], fun _ => [], fun i _ => i ≤ x.spaces.length ∧ ((x.spaces.map (·.name)).take i).Nodup, fun i => x.spaces.length - i, 0,
    all_sl ⟨rfl, trivial⟩, rfl, ole_refl _, ⟨Nat.zero_le _, by simp⟩, loopOK (fun _ => ⟨⟨trivial, rfl⟩, trivial⟩) (fun _ => rfl) (fun _ => rfl), ?_⟩
  rintro i W1 l1 ⟨hi, hI⟩ fr
  refine ⟨rfl, ?_⟩
  apply br_split
  · intro hq
    have hq : (i : Int) < x.spaces.length := hq
    have inc := (i64_in ((i : Int) + 1) ⟨by omega, by omega⟩).symm
    obtain ⟨pc, rfl, s, ds, hx, _, ⟨rv, hds, _⟩, hrd, _⟩ := hS.at SpR.mono l1 (j := (i : Int)) ⟨by omega, hq⟩
    have hx : x.spaces[i]? = some s := hx
    obtain ⟨ni, hni⟩ : ∃ n, s.name = n := ⟨_, rfl⟩
    have hxn : (x.spaces.map (·.name))[i]? = some ni := by rw [List.getElem?_map, hx, ← hni]; rfl
    subst hds
    rw [hni] at hrd
    refine ⟨Nat, fun k => [(4, .v (.int .i64 k))], fun _ => [[.v (.slice (some pc) x.spaces.length c1), .v (.slice a2 x.scopes.length c2)]], fun _ => [], fun k _ => k ≤ i ∧ ∀ k' < k, ∀ y, (x.spaces.map (·.name))[k']? = some y → ¬ ni = y, fun k => i - k, 0,
      all_sl ⟨rfl, trivial⟩, rfl, ole_refl _, ⟨Nat.zero_le _, fun _ h => absurd h (Nat.not_lt_zero _)⟩, loopOK (fun _ => ⟨⟨trivial, rfl⟩, trivial⟩) (fun _ => rfl) (fun _ => rfl), ?_⟩
    rintro k W2 l2 ⟨hk, hKn⟩ fr2
    refine ⟨rfl, ?_⟩
    apply br_split
    · intro hqk
      have hqk : (k : Int) < i := hqk
      have inck := (i64_in ((k : Int) + 1) ⟨by omega, by omega⟩).symm
      obtain ⟨pc', hpc', s2, ds2, hx2, _, ⟨rv2, hds2, _⟩, hrd2, _⟩ := hS.at SpR.mono (l1.trans l2) (j := (k : Int)) ⟨by omega, by omega⟩
      obtain rfl : pc = pc' := Option.some.inj hpc'
      have hx2 : x.spaces[k]? = some s2 := hx2
      obtain ⟨nk, hnk⟩ : ∃ n, s2.name = n := ⟨_, rfl⟩
      have hxk : (x.spaces.map (·.name))[k]? = some nk := by rw [List.getElem?_map, hx2, ← hnk]; rfl
      subst hds2
      rw [hnk] at hrd2
      refine ⟨⟨by omega, hq⟩, pc, rfl, strV ni, ((hrd 0 _ rfl).mono l2).o, ⟨by omega, by show (k : Int) < x.spaces.length; omega⟩, pc, rfl, strV nk, (hrd2 0 _ rfl).o, ?_⟩
      apply br_split
      · intro he
        have he : ni = nk := he
        exact ret_plain rfl fun _ _ => by rw [no1 (nodup_pair hxn hxk (by omega) he)]; rfl
      · intro he
        have he : ¬ ni = nk := he
        refine ⟨rfl, _, inck, k + 1, all_sl ⟨rfl, trivial⟩, rfl, ole_refl _, ⟨by omega, fun k' hk' y hy => ?_⟩, by dsimp only; omega⟩
        rcases Nat.lt_or_ge k' k with h1 | h1
        · exact hKn k' h1 y hy
        · obtain rfl : k' = k := by omega
          rw [hxk] at hy
          rw [← Option.some.inj hy]; exact he
    · intro hqk
      have hqk : ¬ (k : Int) < i := hqk
      exact ⟨rfl, _, inc, i + 1, all_sl ⟨rfl, trivial⟩, rfl, ole_refl _, ⟨by omega, nodup_take hxn hI (not_mem_take fun k' hk' y hy => hKn k' (by omega) y hy)⟩, by dsimp only; omega⟩
  · intro hq
    have hq : ¬ (i : Int) < x.spaces.length := hq
    rw [List.take_of_length_le (by rw [List.length_map]; omega)] at hI
    rw [decide_eq_true hI, Bool.true_and] at hdef
    refine call_v rfl (fun W' lw => alld_x x _ W' hB (ConfR.mono _ _ _ _ (l1.trans lw) hC)) (fun W2 v2 W3 l2 l3 hv2 => ?_)
    obtain ⟨l, hall⟩ : ∃ l, allD x = l := ⟨_, rfl⟩
    rw [hall] at hl hv2 hdef no2
    obtain ⟨a3, c3, rfl, _, _⟩ := hv2.form
    refine ⟨Nat, fun i => [(6, .v (.int .i64 i))], fun _ => [[.v (.slice a1 x.spaces.length c1), .v (.slice a2 x.scopes.length c2)]], fun _ => [], fun i _ => i ≤ l.length ∧ ((l.map keyD).take i).Nodup, fun i => l.length - i, 0,
      all_sl ⟨rfl, trivial⟩, rfl, ole_refl _, ⟨Nat.zero_le _, by simp⟩, loopOK (fun _ => ⟨⟨trivial, rfl⟩, trivial⟩) (fun _ => rfl) (fun _ => rfl), ?_⟩
    rintro j W4 l4 ⟨hj, hJ⟩ fr2
    refine ⟨rfl, ?_⟩
    apply br_split
    · intro hqj
      have hqj : (j : Int) < l.length := hqj
      have incj := (i64_in ((j : Int) + 1) ⟨by omega, by omega⟩).symm
      obtain ⟨pc, rfl, y, ds, hy, _, ⟨tv, nv, hds, _, _⟩, hrd, _⟩ := hv2.at nameR.mono l4 (j := (j : Int)) ⟨by omega, hqj⟩
      have hy : l[j]? = some y := hy
      have hff := find_first hy
      have hky : (l.map keyD)[j]? = some (keyD y) := by rw [List.getElem?_map, hy]; rfl
      subst hds
      obtain ⟨ys, yr⟩ := y
      obtain ⟨rn, hrn⟩ : ∃ n, yr.name = n := ⟨_, rfl⟩
      dsimp only at hrd hff
      rw [hrn] at hrd hff
      have hr1 : Rd W4 (((pc.add ((j : Int).toNat * 4)).add 1).add 0) (strV rn) := by rw [Addr.add_add]; exact hrd 1 _ rfl
      obtain ⟨z, hz⟩ : ∃ z, findD l ys rn = z := ⟨_, rfl⟩
      rw [hz] at hff
      refine ⟨⟨by omega, hqj⟩, pc, rfl, strV ys, (hrd 0 _ rfl).o, ⟨by omega, hqj⟩, pc, rfl, strV rn, hr1.o, ?_⟩
      refine call_e (x := .int .i64 z) rfl (fun W' lw => hz ▸ findd_x l ys rn _ W' hl (hv2.mono nameR.mono (l4.trans lw))) (fun W5 l5 => ?_)
      refine ⟨rfl, ?_⟩
      apply br_nsplit
      · intro he
        have he : ¬ z = (j : Int) := he
        have hnd : ¬ (l.map keyD).Nodup := hff.elim (fun h => absurd h.1 he) fun h => h.2
        exact ret_plain rfl fun _ _ => by rw [no2 hnd]; rfl
      · intro he
        have he : z = (j : Int) := he
        have hnm : keyD (ys, yr) ∉ (l.map keyD).take j := hff.elim (fun h => h.2) fun h => absurd he h.1
        exact ⟨rfl, _, incj, j + 1, all_sl ⟨rfl, trivial⟩, rfl, ole_refl _, ⟨by omega, nodup_take hky hJ hnm⟩, by dsimp only; omega⟩
    · intro hqj
      have hqj : ¬ (j : Int) < l.length := hqj
      rw [List.take_of_length_le (by rw [List.length_map]; omega)] at hJ
      rw [decide_eq_true hJ, Bool.true_and] at hdef
      have l04 := l1.trans (l2.trans (l3.trans l4))
      refine ⟨Nat, fun i => [(7, .v (.int .i64 i))], fun _ => [[.v (.slice a1 x.spaces.length c1), .v (.slice a2 x.scopes.length c2)]], fun _ => [], fun i _ => i ≤ x.scopes.length ∧ ((x.scopes.map (·.name)).take i).Nodup, fun i => x.scopes.length - i, 0,
        all_sl ⟨rfl, trivial⟩, rfl, ole_refl _, ⟨Nat.zero_le _, by simp⟩, loopOK (fun _ => ⟨⟨trivial, rfl⟩, trivial⟩) (fun _ => rfl) (fun _ => rfl), ?_⟩
      rintro p W5 l5 ⟨hp, hP⟩ fr3
      refine ⟨rfl, ?_⟩
      apply br_split
      · intro hqp
        have hqp : (p : Int) < x.scopes.length := hqp
        have incp := (i64_in ((p : Int) + 1) ⟨by omega, by omega⟩).symm
        obtain ⟨pt, rfl, t, ht, _, _, hrt⟩ := RP.at (f := scopeC) (sz := 4) (fun _ => rfl) hK (l04.trans l5) (j := (p : Int)) ⟨by omega, by omega⟩
        have ht : x.scopes[p]? = some t := ht
        obtain ⟨ni, hni⟩ : ∃ n, t.name = n := ⟨_, rfl⟩
        have hxn : (x.scopes.map (·.name))[p]? = some ni := by rw [List.getElem?_map, ht, ← hni]; rfl
        have hrt0 : Rd W5 ((pt.add ((p : Int).toNat * 4)).add 0) (strV ni) := by rw [← hni]; exact hrt 0 _ rfl
        refine ⟨Nat, fun k => [(8, .v (.int .i64 k))], fun _ => [[.v (.slice a1 x.spaces.length c1), .v (.slice (some pt) x.scopes.length c2)]], fun _ => [], fun k _ => k ≤ p ∧ ∀ k' < k, ∀ y, (x.scopes.map (·.name))[k']? = some y → ¬ ni = y, fun k => p - k, 0,
          all_sl ⟨rfl, trivial⟩, rfl, ole_refl _, ⟨Nat.zero_le _, fun _ h => absurd h (Nat.not_lt_zero _)⟩, loopOK (fun _ => ⟨⟨trivial, rfl⟩, trivial⟩) (fun _ => rfl) (fun _ => rfl), ?_⟩
        rintro k W6 l6 ⟨hk, hKn⟩ fr4
        refine ⟨rfl, ?_⟩
        apply br_split
        · intro hqk
          have hqk : (k : Int) < p := hqk
          have inck := (i64_in ((k : Int) + 1) ⟨by omega, by omega⟩).symm
          obtain ⟨pt', hpt', t2, ht2, _, _, hrt2⟩ := RP.at (f := scopeC) (sz := 4) (fun _ => rfl) hK (l04.trans (l5.trans l6)) (j := (k : Int)) ⟨by omega, by omega⟩
          obtain rfl : pt = pt' := Option.some.inj hpt'
          have ht2 : x.scopes[k]? = some t2 := ht2
          obtain ⟨nk, hnk⟩ : ∃ n, t2.name = n := ⟨_, rfl⟩
          have hxk : (x.scopes.map (·.name))[k]? = some nk := by rw [List.getElem?_map, ht2, ← hnk]; rfl
          have hrt20 : Rd W6 ((pt.add ((k : Int).toNat * 4)).add 0) (strV nk) := by rw [← hnk]; exact hrt2 0 _ rfl
          refine ⟨⟨by omega, hqp⟩, pt, rfl, strV ni, (hrt0.mono l6).o, ⟨by omega, by show (k : Int) < x.scopes.length; omega⟩, pt, rfl, strV nk, hrt20.o, ?_⟩
          apply br_split
          · intro he
            have he : ni = nk := he
            exact ret_plain rfl fun _ _ => by rw [no3 (nodup_pair hxn hxk (by omega) he)]; rfl
          · intro he
            have he : ¬ ni = nk := he
            refine ⟨rfl, _, inck, k + 1, all_sl ⟨rfl, trivial⟩, rfl, ole_refl _, ⟨by omega, fun k' hk' y hy => ?_⟩, by dsimp only; omega⟩
            rcases Nat.lt_or_ge k' k with h1 | h1
            · exact hKn k' h1 y hy
            · obtain rfl : k' = k := by omega
              rw [hxk] at hy
              rw [← Option.some.inj hy]; exact he
        · intro hqk
          have hqk : ¬ (k : Int) < p := hqk
          exact ⟨rfl, _, incp, p + 1, all_sl ⟨rfl, trivial⟩, rfl, ole_refl _, ⟨by omega, nodup_take hxn hP (not_mem_take fun k' hk' y hy => hKn k' (by omega) y hy)⟩, by dsimp only; omega⟩
      · intro hqp
        have hqp : ¬ (p : Int) < x.scopes.length := hqp
        rw [List.take_of_length_le (by rw [List.length_map]; omega)] at hP
        rw [decide_eq_true hP] at hdef
        exact ret_plain rfl fun _ _ => by rw [hdef]; rfl
end Go.Proofs.Ytcgbcbdgjhnlaaa

