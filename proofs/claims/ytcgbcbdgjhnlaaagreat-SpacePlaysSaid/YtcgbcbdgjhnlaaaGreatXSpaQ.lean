/- Layer 19 (space), walked: a history is as the document's. No statement is proved here. -/
import Derived.Test.YtcgbcbdgjhnlaaaGreatXSpaM
namespace Go.Proofs.YtcgbcbdgjhnlaaaGreat
open Go.RowKit

theorem num_rows {x : ConfS} (hB : BdC x) : (numbersS x).1.length ≤ 1000 ∧ ∀ r ∈ (numbersS x).1, r.length ≤ 1000 := by
  obtain ⟨T, hT⟩ := treeF
  obtain ⟨_, h1, h2⟩ := numbers_is hT x
  by_cases he : (numbersS x).2 = 0
  · obtain ⟨_, hs, _⟩ := h1 he
    have hb := hB.1
    refine ⟨by rw [shN_len hs]; omega, fun r hr => ?_⟩
    have h3 : r.length ∈ (numbersS x).1.map List.length := List.mem_map.2 ⟨r, hr, rfl⟩
    unfold ShN at hs
    rw [hs] at h3
    obtain ⟨s, hs2, e⟩ := List.mem_map.1 h3
    have := (hB.2.2 s hs2).1
    omega
  · rw [h2 he]
    exact ⟨Nat.zero_le _, fun r hr => by cases hr⟩
/-- What holds of entries. -/
def GoodE (xs : List EntS) : Prop := xs.length ≤ 16 ∧ ∀ e ∈ xs, BdC e.c ∧ okCB e.c ∧ e.num = (numbersS e.c).1
theorem no_bd : BdC noConf := ⟨by decide, by decide, fun s h => by cases h⟩
theorem numAt_is {xs : List EntS} {rev gone : Int} (hg : GoodE xs) : (lastI rev xs 0 (-1) < 0 → numAt xs rev = []) ∧ (¬ lastI rev xs 0 (-1) < 0 → numAt xs rev = (numbersS (atS xs gone rev).1).1) := by
  refine ⟨fun h => if_pos h, fun h => ?_⟩
  rcases lastI_in (rev := rev) xs 0 (-1) with h2 | ⟨j, e, hx, _, hj⟩
  · omega
  · rw [Nat.zero_add] at hj
    rw [atS_yes hj hx]
    unfold numAt
    rw [if_neg h, hj, Int.toNat_natCast, hx]
    exact (hg.2 e (List.mem_of_getElem? hx)).2.2
set_option maxRecDepth 20000 in
set_option maxHeartbeats 16000000 in
theorem same_vc {B : Base} {xs ys : List EntS} {css css2 : List (List Value)} {A A2 : Option Addr} {c c2 gone : Nat} {rev : Int} {W : PW} (hd : ys.drop gone = xs) (hgn : gone ≤ ys.length) (hn : ys.length ≤ 1000) (hg : GoodE xs)
    (hH : LR entR 4 W xs css) (hX : LR verR 3 W ys css2) (hAt : OwnAt A2 ys.length) {K : GV → GS → Prop}
    (hK : ∀ w2 w3 W', W.Le W' → LR entR 4 W' xs css → LR verR 3 W' ys css2 → K (.v (.bool true)) ⟨[(histV (.slice A xs.length c) gone).map .v, (dV (.slice A2 ys.length c2) gone).map .v, w2, w3], [histO A xs.length c css, dO A2 ys.length c2 css2], W'⟩) :
    CallVC Tryz.prog B 19 [.lp 0 0, .lp 1 0, .v (.int .u64 rev)] [] ⟨[(histV (.slice A xs.length c) gone).map .v, (dV (.slice A2 ys.length c2) gone).map .v], [histO A xs.length c css, dO A2 ys.length c2 css2], W⟩ K := by
  obtain ⟨T, hT⟩ := treeF
  have hxl := hg.1
  have hbd : ∀ e ∈ xs, BdC e.c := fun e he => (hg.2 e he).1
  have hyx : ys.length - gone = xs.length := by rw [← hd, List.length_drop]
  obtain ⟨p, hpp⟩ : ∃ p, lastI rev xs 0 (-1) = p := ⟨_, rfl⟩
  obtain ⟨was, hwas⟩ : ∃ y, (atS xs gone rev).1 = y := ⟨_, rfl⟩
  obtain ⟨z, hz⟩ : ∃ z, atI gone p = z := ⟨_, rfl⟩
  obtain ⟨hna1, hna2⟩ := numAt_is (rev := rev) (gone := gone) hg
  rw [hpp] at hna1 hna2
  rw [hwas] at hna2
  have hzn : (atS xs gone rev).2 = z := by
    rcases lastI_in (rev := rev) xs 0 (-1) with h2 | ⟨j, e, hx, _, hj⟩
    · rw [atS_no (by omega), ← hz]
      unfold atI
      rw [if_pos (by omega)]
    · rw [Nat.zero_add] at hj
      rw [atS_yes hj hx, ← hz]
      unfold atI
      rw [if_neg (by omega), ← hpp, hj]
  have hz0 : z ≤ 0 ↔ p < 0 := by
    rw [← hz]
    unfold atI
    split <;> omega
  have hwok : okCB was ∧ BdC was := by
    rw [← hwas]
    rcases lastI_in (rev := rev) xs 0 (-1) with h | ⟨j, x, hx, _, hj⟩
    · rw [atS_no (by omega)]; exact ⟨no_ok, no_bd⟩
    · rw [atS_yes (by rw [hj, Nat.zero_add]) hx]
      exact ⟨(hg.2 x (List.mem_of_getElem? hx)).2.1, (hg.2 x (List.mem_of_getElem? hx)).1⟩
  have hatc := fun g' W14 h => at_x xs css A c gone rev g' W14 h (by omega) ⟨Int.natCast_nonneg _, by omega⟩ hbd
  rw [hwas, hzn] at hatc
  have hdat := fun g' W16 h => dat_x ys css2 A2 c2 gone rev g' W16 h hn hgn
  rw [hd, hpp, hz] at hdat
  refine call_inlP hmix Tryz.func19 r19 (by kernel_rfl) rfl (fun g hg => ?_) (fun rc => ?_)
  · simp only [List.mem_cons, List.not_mem_nil, or_false] at hg
    rcases hg with rfl | rfl | rfl
    · exact Nat.lt_succ_of_lt Nat.zero_lt_one
    · exact Nat.lt_succ_self 1
    · trivial
  refine vc_assoc (vc_assoc (vc_assoc (vc_assoc (vc_cut (fun f' S' => ∃ (b1 : Option Addr) (m1 d1 : Nat) (b2 : Option Addr) (m2 d2 : Nat) (f1 : Option Addr) (k1 q1 : Nat) (f2 : Option Addr) (k2 q2 : Nat) (W1 : PW), S' = ⟨[(histV (.slice A xs.length c) gone).map .v, (dV (.slice A2 ys.length c2) gone).map .v, [.v (.slice b1 m1 d1), .v (.slice b2 m2 d2)], [.v (.slice f1 k1 q1), .v (.slice f2 k2 q2)]], [histO A xs.length c css, dO A2 ys.length c2 css2], W1⟩ ∧ W.Le W1 ∧ ConfR W1 was [.slice b1 m1 d1, .slice b2 m2 d2] ∧ ConfR W1 was [.slice f1 k1 q1, .slice f2 k2 q2] ∧ AllSl f' [(0, .lp 0 0), (1, .lp 1 0), (2, .v (.int .u64 rev)), (7, .lp 2 0), (8, .v (.int .i64 z)), (9, .v (.int .i64 z)), (10, .lp 3 0)]) ?_ ?_))))
  · refine call_m1O (o := histO A xs.length c css) (i := 0) (xs := histV (.slice A xs.length c) gone) rfl rfl rfl rfl rfl rfl k11 (fun g' W14 l14 how hown1 hne1 => (hatc g' W14 ⟨how, hown1, hne1, hH.mono entR.mono l14⟩).mono fun v W15 ⟨⟨cells, hv, hC⟩, hp⟩ l15 => ⟨_, _, hp.own, hp.ho, ?_⟩)
    subst hv
    obtain ⟨b1, m1, d1, b2, m2, d2, rfl⟩ : ∃ b1 m1 d1 b2 m2 d2, cells = [.slice b1 m1 d1, .slice b2 m2 d2] := let ⟨b1, d1, b2, d2, e⟩ := hC.form; ⟨b1, _, d1, b2, _, d2, e⟩
    refine ⟨_, rfl, _, rfl, ?_⟩
    refine call_m1O (o := dO A2 ys.length c2 css2) (i := 1) (xs := dV (.slice A2 ys.length c2) gone) rfl rfl rfl rfl rfl rfl k12 (fun g' W16 l16 how hown1 hne1 => (hdat g' W16 ⟨how, hown1, hne1, hX.mono verR.mono (l14.trans (PW.Le.trans l15 l16))⟩).mono fun v W17 ⟨hv, hp⟩ l17 => ⟨_, _, hp.own, hp.ho, ?_⟩)
    subst hv
    have hX2 := hp.lr
    have lz := l14.trans (PW.Le.trans l15 (PW.Le.trans l16 l17))
    have hC := ConfR.mono _ _ _ _ (PW.Le.trans l16 l17) hC
    refine ⟨rfl, ?_⟩
    apply br_split
    · intro h2
      have h2 : z > 0 := h2
      rcases lastI_in (rev := rev) xs 0 (-1) with h3 | ⟨j, e, hx, _, hj⟩
      · have := hz0.2 (by omega); omega
      rw [Nat.zero_add] at hj
      have hjl := (List.getElem?_eq_some_iff.1 hx).1
      have hzj : z = (gone : Int) + j + 1 := by
        rw [← hz, ← hpp, hj]
        unfold atI
        rw [if_neg (by omega)]
      have hwe : e.c = was := by rw [← hwas, atS_yes hj hx]
      have hyj : ys[gone + j]? = some e := by rw [← hx, ← hd, List.getElem?_drop]
      obtain ⟨b, rfl, e', f1, k1, q1, f2, k2, q2, hx', hC', _, hrd⟩ := ver_at (c := c2) hX2 hAt (j := ((gone + j : Nat) : Int)) ⟨by omega, by omega⟩
      have hx' : ys[gone + j]? = some e' := hx'
      rw [hyj] at hx'
      obtain rfl := Option.some.inj hx'
      rw [hwe] at hC'
      refine ⟨rfl, ((gone + j : Nat) : Int), by rw [hzj, i64_in _ ⟨by omega, by omega⟩]; omega, ⟨by omega, by show ((gone + j : Nat) : Int) < ys.length; omega⟩, b, rfl, [.slice f1 k1 q1, .slice f2 k2 q2], rfl, hrd _ 1 rfl, ?_⟩
      exact ⟨b1, m1, d1, b2, m2, d2, f1, k1, q1, f2, k2, q2, W17, rfl, lz, hC, hC', ⟨rfl, rfl, rfl, rfl, rfl, rfl, rfl, trivial⟩⟩
    · intro h2
      have h2 : ¬ z > 0 := h2
      have hp0 := hz0.1 (by omega)
      have hwe : noConf = was := by rw [← hwas, atS_no (by omega)]
      exact ⟨b1, m1, d1, b2, m2, d2, none, 0, 0, none, 0, 0, W17, rfl, lz, hC, by rw [← hwe]; exact ConfR.no W17, ⟨rfl, rfl, rfl, rfl, rfl, rfl, rfl, trivial⟩⟩
  rintro f' S' ⟨b1, m1, d1, b2, m2, d2, f1, k1, q1, f2, k2, q2, W1, rfl, l01, hC1, hC2, hfr⟩
  refine vc_at _ hfr ?_
  clear hfr hatc hdat
  have hdx := fun W' h => dnumbers_x hT was [.slice f1 k1 q1, .slice f2 k2 q2] W' hwok.1 hwok.2 h
  rw [(numbers_is hT was).1] at hdx
  obtain ⟨NN, hNN⟩ : ∃ N, numbersS was = N := ⟨_, rfl⟩
  rw [hNN] at hdx hna2
  obtain ⟨num, code⟩ := NN
  dsimp only at hdx hna2
  refine vc_assoc (vc_assoc (vc_cut (fun f' S' => ∃ (u : Value) (W2 : PW), S' = ⟨[(histV (.slice A xs.length c) gone).map .v, (dV (.slice A2 ys.length c2) gone).map .v, [.v (.slice b1 m1 d1), .v (.slice b2 m2 d2)], [.v (.slice f1 k1 q1), .v (.slice f2 k2 q2)]], [histO A xs.length c css, dO A2 ys.length c2 css2], W2⟩ ∧ W1.Le W2 ∧ NumR W2 u (numAt xs rev) ∧ AllSl f' [(0, .lp 0 0), (1, .lp 1 0), (2, .v (.int .u64 rev)), (11, .v u)]) ?_ ?_))
  · refine ⟨rfl, ?_⟩
    apply br_nsplit
    · intro h; exact absurd rfl h
    intro _
    refine call_e (x := .bool true) rfl (fun W' lw => same_x was hwok.1 _ _ W' (ConfR.mono _ _ _ _ lw hC1) (ConfR.mono _ _ _ _ lw hC2)) (fun W2 l2 => ?_)
    refine call_m1O (o := histO A xs.length c css) (i := 0) (xs := histV (.slice A xs.length c) gone) rfl rfl rfl rfl rfl rfl k9 (fun g' W10 l10 how hown1 hne1 => (gone_x xs css A c gone g' W10 ⟨how, hown1, hne1, hH.mono entR.mono (l01.trans (PW.Le.trans l2 l10))⟩).mono fun v W11 ⟨hv, hp⟩ l11 => ⟨_, _, hp.own, hp.ho, ?_⟩)
    subst hv
    refine ⟨rfl, ?_⟩
    apply br_nsplit
    · intro h; exact absurd rfl h
    intro _
    have lx := PW.Le.trans l2 (PW.Le.trans l10 l11)
    refine call_v rfl (fun W' lw => hdx W' (ConfR.mono _ _ _ _ (PW.Le.trans lx lw) hC2)) (fun W3 v3 W4 l3 l4 hv3 => ?_)
    obtain ⟨u, rfl, hu⟩ := hv3
    have ly := PW.Le.trans lx (PW.Le.trans l3 l4)
    refine ⟨_, rfl, _, rfl, rfl, ?_⟩
    apply br_split
    · intro h2
      have h2 : z = 0 := h2
      refine ⟨.slice none 0 0, W4, rfl, ly, ?_, ⟨rfl, rfl, rfl, rfl, trivial⟩⟩
      rw [hna1 (hz0.1 (by omega))]
      exact ⟨[], trivial, SlRead.nil W4 _⟩
    · intro h2
      have h2 : ¬ z = 0 := h2
      refine ⟨u, W4, rfl, ly, ?_, ⟨rfl, rfl, rfl, rfl, trivial⟩⟩
      rw [hna2 (fun hp => by
        have h3 := hz0.2 hp
        have h4 : z = 0 := by
          rw [← hz]
          unfold atI
          rw [if_pos hp]
        exact h2 h4)]
      exact hu
  rintro f' S' ⟨u, W2, rfl, l12, hu, hfr⟩
  refine vc_at _ hfr ?_
  clear hfr
  have l02 := l01.trans l12
  have hH2 := hH.mono entR.mono l02
  have hX2 := hX.mono verR.mono l02
  refine call_m1O (o := histO A xs.length c css) (i := 0) (xs := histV (.slice A xs.length c) gone) rfl rfl rfl rfl rfl rfl k10 (fun g' W12 l12 how hown1 hne1 => (list_x xs css A c gone g' W12 ⟨how, hown1, hne1, hH2.mono entR.mono l12⟩ (by omega) hbd).mono fun v W13 ⟨hV, hp⟩ l13 => ⟨_, _, hp.own, hp.ho, ?_⟩)
  have hH3 := hp.lr
  obtain ⟨Va, Vc, rfl, _, _⟩ := hV.form
  have lA := PW.Le.trans l12 l13
  have hyI : ((xs.length : Nat) : Int) = IntKind.i64.wrap ((ys.length : Int) - gone) := by rw [i64_in _ ⟨by omega, by omega⟩]; omega
  refine ⟨rfl, _, hyI, rfl, ?_⟩
  apply br_nsplit
  · intro h; exact absurd rfl h
  intro _
  have hrows : ∀ e ∈ xs, e.num.length ≤ 1000 ∧ ∀ r ∈ e.num, r.length ≤ 1000 := fun e he => by rw [(hg.2 e he).2.2]; exact num_rows (hg.2 e he).1
  have hsmall : (numAt xs rev).length ≤ 1000000 ∧ ∀ r ∈ numAt xs rev, r.length ≤ 1000000 := by
    unfold numAt
    split
    · exact ⟨Nat.zero_le _, fun r hr => by cases hr⟩
    · cases hx : xs[(lastI rev xs 0 (-1)).toNat]? with
      | none => exact ⟨Nat.zero_le _, fun r hr => by cases hr⟩
      | some e =>
        obtain ⟨h1, h2⟩ := hrows e (List.mem_of_getElem? hx)
        exact ⟨by show e.num.length ≤ 1000000; omega, fun r hr => by have := h2 r hr; omega⟩
  refine call_m1O (o := histO A xs.length c css) (i := 0) (xs := histV (.slice A xs.length c) gone) rfl rfl rfl rfl rfl rfl k29 (fun g' W14 l14 how hown1 hne1 => (hnum_x xs css A c gone rev g' W14 ⟨how, hown1, hne1, hH3.mono entR.mono l14⟩ (by omega) hrows).mono fun v W15 ⟨hv, hp⟩ l15 => ⟨_, _, hp.own, hp.ho, ?_⟩)
  have hH4 := hp.lr
  have lB := PW.Le.trans lA (PW.Le.trans l14 l15)
  refine call_e (x := .bool true) rfl (fun W' lw => dsame_x (numAt xs rev) v u W' hsmall (RL.mono RowR.mono lw hv) (RL.mono RowR.mono (PW.Le.trans lB lw) hu)) (fun W16 l16 => ?_)
  have lC := PW.Le.trans lB l16
  have hX3 := hX2.mono verR.mono lC
  have hH5 := hH4.mono entR.mono l16
  have hV := hV.mono verR.mono (PW.Le.trans l14 (PW.Le.trans l15 l16))
  refine ⟨Nat, fun i => [(14, .v (.int .i64 i))], fun _ => [(histV (.slice A xs.length c) gone).map .v, (dV (.slice A2 ys.length c2) gone).map .v, [.v (.slice b1 m1 d1), .v (.slice b2 m2 d2)], [.v (.slice f1 k1 q1), .v (.slice f2 k2 q2)]], fun _ => [histO A xs.length c css, dO A2 ys.length c2 css2], fun i _ => i ≤ xs.length, fun i => xs.length - i, 0,
    all_sl ⟨rfl, trivial⟩, rfl, ole_refl _, Nat.zero_le _, loopOK (fun _ => ⟨⟨trivial, rfl⟩, trivial⟩) (fun _ => rfl) (fun _ => rfl), ?_⟩
  rintro i W17 l17 hi fr
  refine ⟨rfl, ?_⟩
  apply br_split
  · intro h1
    have hq : (i : Int) < xs.length := h1
    have inc := (i64_in ((i : Int) + 1) ⟨by omega, by omega⟩).symm
    have hgi : ((gone + i : Nat) : Int) = IntKind.i64.wrap ((gone : Int) + i) := by rw [i64_in _ ⟨by omega, by omega⟩]; omega
    obtain ⟨pc, rfl, e, cs, hx, _, ⟨g1, g2, g3, g4, g5, g6, rfl, hCe⟩, hall, hrds⟩ := hV.at verR.mono l17 (j := (i : Int)) ⟨by omega, hq⟩
    have hx : xs[i]? = some e := hx
    have hyi : ys[gone + i]? = some e := by rw [← hx, ← hd, List.getElem?_drop]
    have hlt : gone + i < ys.length := (List.getElem?_eq_some_iff.1 hyi).1
    obtain ⟨b, rfl, e', h1, h2, h3, h4, h5, h6, hx', hC', hrv, hrd⟩ := ver_at (c := c2) (hX3.mono verR.mono l17) hAt (j := ((gone + i : Nat) : Int)) ⟨by omega, by omega⟩
    have hx' : ys[gone + i]? = some e' := hx'
    rw [hyi] at hx'
    obtain rfl := Option.some.inj hx'
    obtain ⟨er, her⟩ : ∃ er, e.rev = er := ⟨_, rfl⟩
    rw [her] at hall hrv hrds
    have heok := (hg.2 e (List.mem_of_getElem? hx)).2.1
    have hsub : Rds W17 ((pc.add ((i : Int).toNat * 3)).add 1) [.slice g1 g2 g3, .slice g4 g5 g6] := hrds.drop 1
    refine ⟨⟨by omega, hq⟩, pc, rfl, .int .u64 er, (hall 0 _ rfl).o, rfl, _, hgi, ⟨by omega, by show ((gone + i : Nat) : Int) < ys.length; omega⟩, b, rfl, .int .u64 er, hrv _ 1 rfl, rfl, ?_⟩
    apply br_nsplit
    · intro h; exact absurd rfl h
    intro _
    refine ⟨⟨by omega, hq⟩, pc, rfl, [.slice g1 g2 g3, .slice g4 g5 g6], rfl, hsub.o, rfl, _, hgi, ⟨by omega, by show ((gone + i : Nat) : Int) < ys.length; omega⟩, b, rfl, [.slice h1 h2 h3, .slice h4 h5 h6], rfl, hrd _ 1 rfl, ?_⟩
    refine call_e (x := .bool true) rfl (fun W' lw => same_x e.c heok _ _ W' (ConfR.mono _ _ _ _ lw hCe) (ConfR.mono _ _ _ _ lw hC')) (fun W18 l18 => ?_)
    exact ⟨rfl, _, inc, i + 1, all_sl ⟨rfl, trivial⟩, rfl, ole_refl _, by omega, by dsimp only; omega⟩
  · intro h1
    exact ⟨_, rfl, hK _ _ W17 (l02.trans (PW.Le.trans lC l17)) (hH5.mono entR.mono l17) (hX3.mono verR.mono l17)⟩
end Go.Proofs.YtcgbcbdgjhnlaaaGreat
