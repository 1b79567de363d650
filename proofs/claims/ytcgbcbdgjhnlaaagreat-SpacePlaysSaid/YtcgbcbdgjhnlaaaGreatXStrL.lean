/- Layer 18 (strata), walked: whether a configuration is right (the document's Right), whether something is declared twice. No statement is proved here. -/
import Derived.Test.YtcgbcbdgjhnlaaaGreatXMF
namespace Go.Proofs.YtcgbcbdgjhnlaaaGreat
open Go.RowKit

theorem refid_xl (s : List UInt8) (hs : s.length ≤ 9223372036854775807) (W : PW) : CallsX Tryz.prog 66 ⟨[strV s]⟩ [] W fun v _ => v = .bool (idS s) := by
  refine pureX hmix Tryz.func66 r66 (by kernel_rfl) [strV s] rfl ?_
  refine ⟨Nat, fun i => [(3, .v (.int .i64 i))], fun _ => [], fun _ => [], fun i _ => i ≤ s.length ∧ s.all idB = (s.drop i).all idB, fun i => s.length - i, 0,
    all_sl ⟨rfl, trivial⟩, rfl, ole_refl _, ⟨Nat.zero_le _, rfl⟩, loopOK (fun _ => ⟨⟨trivial, rfl⟩, trivial⟩) (fun _ => rfl) (fun _ => rfl), ?_⟩
  intro i W1 l1 ⟨hi, hI⟩ f
  refine ⟨rfl, br_split (fun h => ?_) (fun h => ?_)⟩
  · have h : (i : Int) < s.length := h
    have hil : i < s.length := by omega
    have hb : byteAt s (i : Int).toNat = (s[i]).toNat := byteAt_get (List.getElem?_eq_getElem hil)
    rw [List.drop_eq_getElem_cons hil, List.all_cons] at hI
    refine ⟨⟨by omega, h⟩, ?_⟩
    have no : idB s[i] = false → allS idB s = false := fun h => by simp [allS, hI, h]
    have go : idB s[i] = true → s.all idB = (s.drop (i + 1)).all idB := fun h => by rw [hI, h]; simp
    have inc := (i64_in ((i : Int) + 1) ⟨by omega, by omega⟩).symm
    have key : ∀ n : Nat, n = (s[i]).toNat → idB s[i] = (smallB (UInt8.ofNat n) || figB (UInt8.ofNat n) || (decide (65 ≤ n) && decide (n ≤ 90)) || decide (n = 46) || decide (n = 45)) := fun n hn => by subst hn; rw [UInt8.ofNat_toNat]; (first | done | rfl)
    clear key
    generalize hc : s[i] = c at hb no go
    refine ⟨rfl, ?_⟩
    repeat' first
      | refine ⟨rfl, _, inc, i + 1, all_sl ⟨rfl, trivial⟩, rfl, ole_refl _, ⟨by omega, go ?_⟩, by dsimp only; omega⟩
      | refine ⟨rfl, ?_⟩
      | refine br_split (fun h => ?_) (fun h => ?_)
      | refine br_nsplit (fun h => ?_) (fun h => ?_)
      | refine ret_plain rfl fun _ _ => ?_
    all_goals simp only [hb] at *
    all_goals first
      | (rw [idS, no]; simp only [idB, smallB, figB, Bool.or_eq_false_iff, Bool.and_eq_false_iff, decide_eq_false_iff_not]; omega)
      | (simp only [idB, smallB, figB, Bool.or_eq_true, Bool.and_eq_true, decide_eq_true_eq]; omega)
  · have h : ¬ (i : Int) < s.length := h
    rw [List.drop_eq_nil_of_le (by omega)] at hI
    refine ⟨rfl, br_split (fun h1 => ?_) (fun h1 => ?_)⟩
    · have h1 : (1 : Int) ≤ s.length := h1
      refine ⟨rfl, ret_plain rfl fun _ _ => ?_⟩
      show Value.bool (decide ((s.length : Int) ≤ 32)) = _
      congr 1
      rw [idS, allS, hI, Bool.eq_iff_iff]
      simp; omega
    · have h1 : ¬ (1 : Int) ≤ s.length := h1
      refine ret_plain rfl fun _ _ => ?_
      congr 1
      rw [idS, allS, Bool.eq_iff_iff]
      simp; omega
theorem isRef_xl (r : RefS) (h : r.fits) (W : PW) : CallsX Tryz.prog 47 ⟨[.agg ⟨refC r⟩]⟩ [] W fun v _ => v = .bool (isRefS r) := by
  refine pureX hmix Tryz.func47 r47 (by kernel_rfl) [.agg ⟨refC r⟩] rfl ?_
  refine call_v rfl (fun W' _ => refword_xl r.space h.1 W') (fun W1 v W2 _ _ hv => ?_); subst hv
  refine br_bool (fun h1 => ?_) (fun h1 => ?_)
  · refine call_v rfl (fun W' _ => refid_xl r.id h.2 W') (fun W1 v W2 _ _ hv => ?_); subst hv
    refine ret_plain rfl fun _ _ => ?_
    rw [isRefS, h1]; (first | done | rfl)
  · refine ret_plain rfl fun _ _ => ?_
    rw [isRefS, h1]; (first | done | rfl)

/-- A call that answers a bool: both ways. -/
theorem call_b {P : Program} {B : Base} {S : GS} {fid : FuncId} {args : List GV} {vs : List Value} {prot : List Nat} {K : GV → GS → Prop} {b : Bool} (hp : plainGs args = some vs) (hc : ∀ W', S.W.Le W' → CallsX P fid ⟨vs⟩ [] W' fun v _ => v = .bool b)
    (h1 : b = false → ∀ W'', S.W.Le W'' → K (.v (.bool false)) (S.setW W'')) (h2 : b = true → ∀ W'', S.W.Le W'' → K (.v (.bool true)) (S.setW W'')) : CallVC P B fid args prot S K :=
  call_v hp hc fun W' v W'' l1 l2 hv => by
    subst hv
    cases b
    · exact h1 rfl _ (l1.trans l2)
    · exact h2 rfl _ (l1.trans l2)
theorem call_e {P : Program} {B : Base} {S : GS} {fid : FuncId} {args : List GV} {vs : List Value} {prot : List Nat} {K : GV → GS → Prop} {x : Value} (hp : plainGs args = some vs) (hc : ∀ W', S.W.Le W' → CallsX P fid ⟨vs⟩ [] W' fun v _ => v = x)
    (hK : ∀ W'', S.W.Le W'' → K (.v x) (S.setW W'')) : CallVC P B fid args prot S K :=
  call_v hp hc fun W' v W'' l1 l2 hv => by subst hv; exact hK _ (l1.trans l2)
theorem typ_both {a b : List UInt8} (ha : a = []) (hb : b = []) : typOK ⟨a, b⟩ = true := by subst ha; subst hb; rfl
theorem typ_word {a b : List UInt8} (h : ¬ (a = [] ∧ b = [])) : typOK ⟨a, b⟩ = (wordS a && wordS b) := by
  unfold typOK
  have : (decide (a = []) && decide (b = [])) = false := by
    rw [Bool.and_eq_false_iff, decide_eq_false_iff_not, decide_eq_false_iff_not]
    by_cases ha : a = []
    · exact .inr fun hb => h ⟨ha, hb⟩
    · exact .inl ha
  show ((decide (a = []) && decide (b = [])) || (wordS a && wordS b)) = _
  rw [this, Bool.false_or]
set_option maxRecDepth 20000 in
set_option maxHeartbeats 16000000 in
theorem dright_x (x : ConfS) (cs : List Value) (hok : okCB x) (W : PW) (h : ConfR W x cs) : CallsX Tryz.prog 31 ⟨[.agg ⟨cs⟩]⟩ [] W fun v _ => v = .bool (rightN x) := by
  have hC := h
  obtain ⟨sv, kv, rfl, hS, hK⟩ := h
  obtain ⟨a1, c1, rfl, _, _⟩ := hS.form
  obtain ⟨a2, c2, rfl, _, _⟩ := hK.form
  have hn := hok.n
  have hm := hok.m
  refine pureX hmix Tryz.func31 r31 (by kernel_rfl) [.agg ⟨[.slice a1 x.spaces.length c1, .slice a2 x.scopes.length c2]⟩] rfl ?_
  obtain ⟨R, hR⟩ : ∃ R, rightN x = R := ⟨_, rfl⟩
  have hdef : R = (!muchC x && (x.spaces.all spOK && x.scopes.all scOK)) := by rw [← hR]; unfold rightN; rw [within_is]
  have noS : ∀ {s : SpaceS}, s ∈ x.spaces → spOK s = false → rightN x = false := fun hs hf => by rw [hR, hdef, all_no hs hf, Bool.false_and, Bool.and_false]
  have noK : ∀ {s : ScopeS}, s ∈ x.scopes → scOK s = false → rightN x = false := fun hs hf => by rw [hR, hdef, all_no hs hf, Bool.and_false, Bool.and_false]
  refine ⟨Nat, fun i => [(3, .v (.int .i64 i))], fun _ => [[.v (.slice a1 x.spaces.length c1), .v (.slice a2 x.scopes.length c2)]], fun _ => [], fun i _ => i ≤ x.spaces.length ∧ ∀ y ∈ x.spaces.take i, spOK y = true, fun i => x.spaces.length - i, 0,
    all_sl ⟨rfl, trivial⟩, rfl, ole_refl _, ⟨Nat.zero_le _, by simp⟩, loopOK (fun _ => ⟨⟨trivial, rfl⟩, trivial⟩) (fun _ => rfl) (fun _ => rfl), ?_⟩
  rintro i W1 l1 ⟨hi, hI⟩ fr
  refine ⟨rfl, ?_⟩
  apply br_split
  · intro hq
    have hq : (i : Int) < x.spaces.length := hq
    have inc := (i64_in ((i : Int) + 1) ⟨by omega, by omega⟩).symm
    obtain ⟨pc, rfl, s, ds, hx, _, ⟨rv, hds, hRl⟩, _, hrds⟩ := hS.at SpR.mono l1 (j := (i : Int)) ⟨by omega, hq⟩
    have hx : x.spaces[i]? = some s := hx
    have hxm := List.mem_of_getElem? hx
    have hos := hok.sp s hxm
    obtain ⟨sn, rls⟩ := s
    obtain ⟨hsn, hrn, hrl⟩ := hos
    dsimp only at hds hRl hsn hrn hrl
    obtain ⟨a3, c3, rfl, _, _⟩ := hRl.form
    subst hds
    refine ⟨⟨by omega, hq⟩, pc, rfl, [strV sn, .slice a3 rls.length c3], rfl, hrds.o, ?_⟩
    refine call_b rfl (fun W' _ => refword_xl sn hsn W') (fun hw _ _ => ?_) (fun hw W3 l23 => ?_)
    · exact ret_plain rfl fun _ _ => by rw [noS hxm (by unfold spOK; dsimp only; rw [hw]; rfl)]
    have hsp : spOK ⟨sn, rls⟩ = rls.all relOK := by unfold spOK; dsimp only; rw [hw]; rfl
    refine ⟨Nat, fun i => [(5, .v (.int .i64 i))], fun _ => [[.v (.slice (some pc) x.spaces.length c1), .v (.slice a2 x.scopes.length c2)], [.v (strV sn), .v (.slice a3 rls.length c3)]], fun _ => [], fun k _ => k ≤ rls.length ∧ ∀ y ∈ rls.take k, relOK y = true, fun k => rls.length - k, 0,
      all_sl ⟨rfl, trivial⟩, rfl, ole_refl _, ⟨Nat.zero_le _, by simp⟩, loopOK (fun _ => ⟨⟨trivial, rfl⟩, trivial⟩) (fun _ => rfl) (fun _ => rfl), ?_⟩
    rintro k W4 l4 ⟨hk, hKr⟩ fr2
    refine ⟨rfl, ?_⟩
    apply br_split
    · intro hqk
      have hqk : (k : Int) < rls.length := hqk
      have inck := (i64_in ((k : Int) + 1) ⟨by omega, by omega⟩).symm
      obtain ⟨pd, rfl, r, es, hy, _, ⟨tv, nv, hes, hT, hN⟩, _, hrds2⟩ := hRl.at RelR.mono (l23.trans l4) (j := (k : Int)) ⟨by omega, hqk⟩
      have hy : rls[k]? = some r := hy
      have hym := List.mem_of_getElem? hy
      have hor := hrl r hym
      obtain ⟨rn, ts, ns⟩ := r
      obtain ⟨hrnm, hts, htn, hns1, hns2⟩ := hor
      dsimp only at hes hT hN hrnm hts htn hns1 hns2
      obtain ⟨a4, c4, rfl, _, _⟩ := hT.form
      obtain ⟨a5, c5, rfl, _, _⟩ := hN.form
      subst hes
      refine ⟨⟨by omega, hqk⟩, pd, rfl, [strV rn, .slice a4 ts.length c4, .slice a5 ns.length c5], rfl, hrds2.o, ?_⟩
      refine call_b rfl (fun W' _ => refword_xl rn hrnm W') (fun hw2 _ _ => ?_) (fun hw2 W6 l56 => ?_)
      · exact ret_plain rfl fun _ _ => by rw [noS hxm (hsp.trans (all_no hym (by unfold relOK; dsimp only; rw [hw2]; rfl)))]
      obtain ⟨dp, hdp⟩ : ∃ d : Nat, deepD ns = d := ⟨_, rfl⟩
      refine call_e (x := .int .i64 dp) rfl (fun W' lw => hdp ▸ deepd_x ns hns1 hns2 _ W' (hN.mono (l56.trans lw))) (fun W8 l8 => ?_)
      have hrel : relOK ⟨rn, ts, ns⟩ = (!decide ((dp : Int) = 0) && ts.all typOK) := by
        unfold relOK
        dsimp only
        rw [hw2, deep_is, hdp]; rfl
      have l78 := l56.trans l8
      refine ⟨rfl, ?_⟩
      apply br_split
      · intro hz
        have hz : (dp : Int) = 0 := hz
        exact ret_plain rfl fun _ _ => by rw [noS hxm (hsp.trans (all_no hym (by rw [hrel, decide_eq_true hz]; rfl)))]
      intro hz
      have hz : ¬ (dp : Int) = 0 := hz
      rw [decide_eq_false hz, Bool.not_false, Bool.true_and] at hrel
      refine ⟨Nat, fun i => [(7, .v (.int .i64 i))], fun _ => [[.v (.slice (some pc) x.spaces.length c1), .v (.slice a2 x.scopes.length c2)], [.v (strV sn), .v (.slice (some pd) rls.length c3)], [.v (strV rn), .v (.slice a4 ts.length c4), .v (.slice a5 ns.length c5)]], fun _ => [], fun j _ => j ≤ ts.length ∧ ∀ y ∈ ts.take j, typOK y = true, fun j => ts.length - j, 0,
        all_sl ⟨rfl, trivial⟩, rfl, ole_refl _, ⟨Nat.zero_le _, by simp⟩, loopOK (fun _ => ⟨⟨trivial, rfl⟩, trivial⟩) (fun _ => rfl) (fun _ => rfl), ?_⟩
      rintro j W9 l9 ⟨hj, hJ⟩ fr3
      refine vc_cut (fun f' S' => S' = ⟨[[.v (.slice (some pc) x.spaces.length c1), .v (.slice a2 x.scopes.length c2)], [.v (strV sn), .v (.slice (some pd) rls.length c3)], [.v (strV rn), .v (.slice a4 ts.length c4), .v (.slice a5 ns.length c5)]], [], W9⟩ ∧ j < ts.length ∧ AllSl f' [(6, .lp 2 0), (7, .v (.int .i64 j))]) ?_ ?_
      · refine ⟨rfl, ?_⟩
        apply br_split
        · intro hqj
          have hqj : (j : Int) < ts.length := hqj
          exact ⟨rfl, by omega, ⟨rfl, rfl, trivial⟩⟩
        · intro hqj
          have hqj : ¬ (j : Int) < ts.length := hqj
          rw [List.take_of_length_le (by omega)] at hJ
          exact ⟨rfl, _, inck, k + 1, all_sl ⟨rfl, trivial⟩, rfl, ole_refl _, ⟨by omega, take_all hy hKr (hrel.trans (List.all_eq_true.2 hJ))⟩, by dsimp only; omega⟩
      · rintro f3 S3 ⟨rfl, hlt, hfr⟩
        refine vc_at _ hfr ?_
        clear hfr
        have hqj : (j : Int) < ts.length := by omega
        have incj := (i64_in ((j : Int) + 1) ⟨by omega, by omega⟩).symm
        obtain ⟨pt, rfl, t, ht, _, _, hrt⟩ := RP.at (f := typC) (sz := 2) (fun _ => rfl) hT (l78.trans l9) (j := (j : Int)) ⟨by omega, by omega⟩
        have ht : ts[j]? = some t := ht
        have htm := List.mem_of_getElem? ht
        have hot := hts t htm
        obtain ⟨a, b⟩ := t
        obtain ⟨hla, hlb⟩ := hot
        dsimp only at hla hlb
        refine ⟨⟨by omega, hqj⟩, pt, rfl, [strV a, strV b], rfl, Rds.o hrt, ?_⟩
        apply br_split
        case' h2 =>
          intro ha
          have e := typ_word (a := a) (b := b) fun h => ha h.1
        case' h1 =>
          intro ha
          have ha : a = [] := ha
          apply br_split
        case h1.h1 =>
          intro hb
          have hb : b = [] := hb
          exact ⟨rfl, _, incj, j + 1, all_sl ⟨rfl, trivial⟩, rfl, ole_refl _, ⟨by omega, take_all ht hJ (typ_both ha hb)⟩, by dsimp only; omega⟩
        case' h1.h2 =>
          intro hb
          have e := typ_word (a := a) (b := b) fun h => hb h.2
        all_goals
          refine call_b rfl (fun W' _ => refword_xl a hla W') (fun hwa _ _ => ?_) (fun hwa Wb lb => ?_)
          · exact ret_plain rfl fun _ _ => by rw [noS hxm (hsp.trans (all_no hym (hrel.trans (all_no htm (by rw [e, hwa]; rfl)))))]
          refine call_b rfl (fun W' _ => refword_xl b hlb W') (fun hwb _ _ => ?_) (fun hwb Wd ld => ?_)
          · exact ret_plain rfl fun _ _ => by rw [noS hxm (hsp.trans (all_no hym (hrel.trans (all_no htm (by rw [e, hwa, hwb]; rfl)))))]
          exact ⟨rfl, _, incj, j + 1, all_sl ⟨rfl, trivial⟩, rfl, ole_refl _, ⟨by omega, take_all ht hJ (by rw [e, hwa, hwb]; rfl)⟩, by dsimp only; omega⟩
    · intro hqk
      have hqk : ¬ (k : Int) < rls.length := hqk
      rw [List.take_of_length_le (by omega)] at hKr
      exact ⟨rfl, _, inc, i + 1, all_sl ⟨rfl, trivial⟩, rfl, ole_refl _, ⟨by omega, take_all hx hI (hsp.trans (List.all_eq_true.2 hKr))⟩, by dsimp only; omega⟩
  · intro hq
    have hq : ¬ (i : Int) < x.spaces.length := hq
    rw [List.take_of_length_le (by omega)] at hI
    rw [List.all_eq_true.2 hI, Bool.true_and] at hdef
    refine ⟨Nat, fun i => [(9, .v (.int .i64 i))], fun _ => [[.v (.slice a1 x.spaces.length c1), .v (.slice a2 x.scopes.length c2)]], fun _ => [], fun k _ => k ≤ x.scopes.length ∧ ∀ y ∈ x.scopes.take k, scOK y = true, fun k => x.scopes.length - k, 0,
      all_sl ⟨rfl, trivial⟩, rfl, ole_refl _, ⟨Nat.zero_le _, by simp⟩, loopOK (fun _ => ⟨⟨trivial, rfl⟩, trivial⟩) (fun _ => rfl) (fun _ => rfl), ?_⟩
    rintro k W2 l2 ⟨hk, hKs⟩ fr2
    refine ⟨rfl, ?_⟩
    apply br_split
    · intro hqk
      have hqk : (k : Int) < x.scopes.length := hqk
      have inck := (i64_in ((k : Int) + 1) ⟨by omega, by omega⟩).symm
      obtain ⟨pt, rfl, t, ht, _, _, hrt⟩ := RP.at (f := scopeC) (sz := 4) (fun _ => rfl) hK (l1.trans l2) (j := (k : Int)) ⟨by omega, by omega⟩
      have ht : x.scopes[k]? = some t := ht
      have htm := List.mem_of_getElem? ht
      have hot := hok.sc t htm
      obtain ⟨sn, ⟨so, si⟩, sr⟩ := t
      obtain ⟨h1, h2, h3⟩ := hot
      dsimp only at h1 h2 h3
      have hsc : scOK ⟨sn, ⟨so, si⟩, sr⟩ = (wordS sn && (isRefS ⟨so, si⟩ && wordS sr)) := rfl
      refine ⟨⟨by omega, hqk⟩, pt, rfl, [strV sn, strV so, strV si, strV sr], rfl, Rds.o hrt, ?_⟩
      refine call_b rfl (fun W' _ => refword_xl sn h1 W') (fun hwa _ _ => ?_) (fun hwa Wb lb => ?_)
      · exact ret_plain rfl fun _ _ => by rw [noK htm (by rw [hsc, hwa]; rfl)]
      refine call_b rfl (fun W' _ => isRef_xl ⟨so, si⟩ h2 W') (fun hwb _ _ => ?_) (fun hwb Wd ld => ?_)
      · exact ret_plain rfl fun _ _ => by rw [noK htm (by rw [hsc, hwa, hwb]; rfl)]
      refine call_b rfl (fun W' _ => refword_xl sr h3 W') (fun hwc _ _ => ?_) (fun hwc Wf lf => ?_)
      · exact ret_plain rfl fun _ _ => by rw [noK htm (by rw [hsc, hwa, hwb, hwc]; rfl)]
      exact ⟨rfl, _, inck, k + 1, all_sl ⟨rfl, trivial⟩, rfl, ole_refl _, ⟨by omega, take_all ht hKs (by rw [hsc, hwa, hwb, hwc]; rfl)⟩, by dsimp only; omega⟩
    · intro hqk
      have hqk : ¬ (k : Int) < x.scopes.length := hqk
      rw [List.take_of_length_le (by omega)] at hKs
      rw [List.all_eq_true.2 hKs, Bool.and_true] at hdef
      refine call_v rfl (fun W' lw => muchd_x x _ hn (fun s hs => (hok.sp s hs).space) W' (ConfR.mono _ _ _ _ (l1.trans (l2.trans lw)) hC)) (fun Wa va Wb la lb hva => ?_)
      obtain ⟨w, hw, rfl⟩ : ∃ w, muchC x = w ∧ va = .bool w := ⟨_, rfl, hva⟩
      refine ret_plain rfl fun _ _ => ?_
      rw [hR, hdef, hw]

theorem not_mem_take {α : Type} {l : List α} {i : Nat} {x : α} (h : ∀ k, k < i → ∀ y, l[k]? = some y → ¬ x = y) : x ∉ l.take i := by
  intro hm
  obtain ⟨k, hk⟩ := List.mem_iff_getElem?.1 hm
  rw [List.getElem?_take] at hk
  split at hk
  · rename_i hki
    exact h k hki x hk rfl
  · cases hk

end Go.Proofs.YtcgbcbdgjhnlaaaGreat
