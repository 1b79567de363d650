/- Layer 19 (space), walked: the law SpaceLoads. -/
import Derived.Test.YtcgbcbdgjhnlaaaGreatWSpaJ
namespace Go.Proofs.YtcgbcbdgjhnlaaaGreat
open Go.RowKit

structure LoSt where
  i : Nat
  A : Option Addr
  c : Nat
  css : List (List Value)
  xs : List EntS
  A2 : Option Addr
  c2 : Nat
  css2 : List (List Value)
  ok : Bool
set_option maxRecDepth 20000 in
set_option maxHeartbeats 16000000 in
theorem loads_x (l : List DoS) (gone rev : Int) (hl : ∀ d ∈ l, anyC d.c) (u : Value) (W : PW) (hu : RL doR 4 W u l) : CallsX Tryz.prog 3 ⟨[u, .int .i64 gone, .int .u64 rev]⟩ [] W fun v _ => v = .bool true := by
  obtain ⟨ua, uc, rfl, _, _⟩ := hu.form
  have hmax := maxLen_big
  refine pureNX hmix Tryz.func3 r3 (by kernel_rfl) [nilO 37 3, nilO 50 3, nilO 66 4] rfl [.slice ua l.length uc, .int .i64 gone, .int .u64 rev] rfl ?_
  refine call_v rfl (fun W' lw => fewd_x 18 (by decide) l _ W' (hu.mono doR.mono lw)) (fun W1 v W2 l1 l2 hv1 => ?_)
  obtain ⟨L, hL⟩ : ∃ L, fewD 18 l = L := ⟨_, rfl⟩
  have hgL := fewD_good (n := 18) hl
  have hnL := fewD_len 18 l
  rw [hL] at hv1 hgL hnL
  obtain ⟨La, Lc, rfl, _, _⟩ := hv1.form
  refine ⟨rfl, ?_⟩
  refine ⟨LoSt, fun t => [(7, .v (.slice t.A t.i t.c)), (9, .v (.bool t.ok)), (10, .v (.int .i64 t.i))], fun t => [(dV (.slice t.A2 t.xs.length t.c2) 0).map .v], fun t => [verO t.A t.i t.c t.css, dO t.A2 t.xs.length t.c2 t.css2, nilO 66 4], fun t W' => t.i ≤ L.length ∧ t.xs = (foldA L t.i).1 ∧ t.ok = (decide (0 ≤ gone) && (foldA L t.i).2) ∧ LR verD 3 W' (L.take t.i) t.css ∧ LR verR 3 W' t.xs t.css2, fun t => L.length - t.i, ⟨0, none, 0, [], [], none, 0, [], decide (0 ≤ gone)⟩,
    all_sl ⟨rfl, rfl, rfl, trivial⟩, rfl, ole_refl _, ⟨Nat.zero_le _, rfl, by dsimp only; rw [show (foldA L 0).2 = true from rfl, Bool.and_true], trivial, trivial⟩, loopOK (fun _ => ⟨⟨trivial, rfl⟩, ⟨trivial, rfl⟩, ⟨trivial, rfl⟩, trivial⟩) (fun _ => rfl) (fun _ => rfl), ?_⟩
  rintro ⟨i, A, c, css, xs, A2, c2, css2, ok⟩ W5 l5 ⟨hi, hxs, hok, hM, hX⟩ fr
  dsimp only at hi hxs hok hM hX
  obtain ⟨hHk, hlen⟩ := foldA_ok hgL i hi
  rw [← hxs] at hHk hlen
  have hx16 := hHk.1
  refine ⟨rfl, ?_⟩
  apply br_split
  · intro h1
    have hq : (i : Int) < L.length := h1
    have inc := (i64_in ((i : Int) + 1) ⟨by omega, by omega⟩).symm
    obtain ⟨pc, rfl, d, cs, hx, _, hD, hall, hrds⟩ := hv1.at doR.mono l5 (j := (i : Int)) ⟨by omega, hq⟩
    have hx : L[i]? = some d := hx
    obtain ⟨g1, g2, g3⟩ := hgL d (List.mem_of_getElem? hx)
    have hstep := foldA_step hx
    rw [← hxs] at hstep
    obtain ⟨a1, n1, d1, a2, n2, d2, rfl, hC⟩ := hD.form
    obtain ⟨dr, hdr⟩ : ∃ k, d.rev = k := ⟨_, rfl⟩
    rw [hdr] at hall hrds hstep
    have hsub : Rds W5 ((pc.add ((i : Int).toNat * 4)).add 2) [.slice a1 n1 d1, .slice a2 n2 d2] := hrds.drop 2
    refine ⟨⟨by omega, hq⟩, pc, rfl, .int .u64 dr, (hall 1 _ rfl).o, ⟨by omega, hq⟩, pc, rfl, [.slice a1 n1 d1, .slice a2 n2 d2], rfl, hsub.o, rfl, .inl fun bd Wd ld hrd => ⟨0, _, [.int .u64 dr, .slice a1 n1 d1, .slice a2 n2 d2], rfl, rfl, rfl, rfl, rfl, ?_, fun _ => ⟨_, rfl, hrd.o⟩, by show i + 1 ≤ maxLen; omega, by show (i + 1) * 56 ≤ 140737488355328; omega, rfl, @fun Ae ce _ => ?_⟩⟩
    · intro u hu
      simp only [List.mem_cons, List.not_mem_nil, or_false] at hu
      rcases hu with rfl | rfl | rfl <;> rfl
    have hsub2 : Rds Wd ((pc.add ((i : Int).toNat * 4)).add 2) [.slice a1 n1 d1, .slice a2 n2 d2] := fun j v hj => (hsub j v hj).mono ld
    refine ⟨⟨by omega, hq⟩, pc, rfl, .int .u64 dr, ((hall 1 _ rfl).mono ld).o, ⟨by omega, hq⟩, pc, rfl, [.slice a1 n1 d1, .slice a2 n2 d2], rfl, hsub2.o, ?_⟩
    refine call_m1O (o := dO A2 xs.length c2 css2) (i := 1) (xs := dV (.slice A2 xs.length c2) 0) rfl rfl rfl rfl rfl rfl k6 (fun g' W6 l6 how hown1 hne1 => (dadd0_x xs css2 A2 c2 dr d.c _ g' W6 ⟨how, hown1, hne1, hX.mono verR.mono (PW.Le.trans ld l6)⟩ (by omega) g1 g2 (ConfR.mono _ _ _ _ (PW.Le.trans ld l6) hC)).mono fun v W7 ⟨hv, A', c', css', hp⟩ l7 => ⟨_, _, hp.own, hp.ho, ?_⟩)
    obtain ⟨R, hR⟩ : ∃ R, addS xs dr d.c = R := ⟨_, rfl⟩
    have hlr := hp.lr
    rw [hR] at hv hlr hstep ⊢
    obtain ⟨ys, code⟩ := R
    dsimp only at hv hlr hstep ⊢
    subst hv
    have lz := ld.trans (PW.Le.trans l6 l7)
    have hM2 : LR verD 3 W7 (L.take (i + 1)) (css ++ [[.int .u64 dr, .slice a1 n1 d1, .slice a2 n2 d2]]) := by
      rw [List.take_add_one, hx]
      have hRR : verD W7 d [.int .u64 dr, .slice a1 n1 d1, .slice a2 n2 d2] := ⟨_, _, _, _, _, _, by rw [hdr], ConfR.mono _ _ _ _ lz hC⟩
      exact LR.snoc rfl hRR (hM.mono verD.mono lz)
    have hO : ([⟨.slice Ae (i + 1) ce, 37, 3, i + 1, css.flatten ++ [.int .u64 dr, .slice a1 n1 d1, .slice a2 n2 d2]⟩, dO A' ys.length c' css', nilO 66 4] : List Own) = [verO Ae (i + 1) ce (css ++ [[.int .u64 dr, .slice a1 n1 d1, .slice a2 n2 d2]]), dO A' ys.length c' css', nilO 66 4] := by
      have : (css ++ [[Value.int .u64 dr, .slice a1 n1 d1, .slice a2 n2 d2]]).flatten = css.flatten ++ [.int .u64 dr, .slice a1 n1 d1, .slice a2 n2 d2] := by simp
      unfold verO
      rw [this]
    refine ⟨rfl, ?_⟩
    apply br_nsplit
    · intro h3
      have h3 : ¬ code = 0 := h3
      refine ⟨rfl, _, inc, ⟨i + 1, Ae, ce, css ++ [[.int .u64 dr, .slice a1 n1 d1, .slice a2 n2 d2]], ys, A', c', css', false⟩, all_sl ⟨rfl, rfl, rfl, trivial⟩, rfl, ole_eq ?_, ⟨by dsimp only; omega, ?_, ?_, ?_, hlr⟩, by dsimp only; omega⟩
      · exact hO
      · dsimp only; rw [hstep]
      · dsimp only; rw [hstep, decide_eq_false h3, Bool.and_false, Bool.and_false]
      · exact hM2
    · intro h3
      have h3 : code = 0 := h3
      refine ⟨rfl, _, inc, ⟨i + 1, Ae, ce, css ++ [[.int .u64 dr, .slice a1 n1 d1, .slice a2 n2 d2]], ys, A', c', css', ok⟩, all_sl ⟨rfl, rfl, rfl, trivial⟩, rfl, ole_eq ?_, ⟨by dsimp only; omega, ?_, ?_, ?_, hlr⟩, by dsimp only; omega⟩
      · exact hO
      · dsimp only; rw [hstep]
      · dsimp only; rw [hstep, decide_eq_true h3, Bool.and_true]; exact hok
      · exact hM2
  intro h1
  have hq : ¬ (i : Int) < L.length := h1
  obtain rfl : i = L.length := by omega
  rw [List.take_length] at hM
  have hcall := fun {B : Base} {W8 : PW} (l8 : W5.Le W8) (hs8 : SlRead W8 (verO A L.length c css).v (verO A L.length c css).n (verO A L.length c css).cs) => (⟨css, hM.mono verD.mono l8, hs8⟩ : RL verD 3 W8 (.slice A L.length c) L)
  cases ok
  · refine CallVC.freeze (fun _ hb => hb) rfl (i := 0) rfl k7 fun W8 l8 hs8 => ?_
    refine load_vc (xv := .slice A2 xs.length c2) (o0 := dO A2 xs.length c2 css2) hxs.symm (⟨css, hM.mono verD.mono l8, hs8⟩ : RL verD 3 W8 (.slice A L.length c) L) hnL hgL (fun hf S' lS => ?_) (fun hg0 hall A' c' css' W9 l9 hH => ?_)
    · refine ⟨_, rfl, _, rfl, ?_⟩
      refine ⟨rfl, ?_⟩
      refine call_e (x := .bool true) rfl (fun W' _ => splives_x W') (fun W9 l9 => ?_)
      exact ret_plain rfl fun _ _ => rfl
    · rw [hall, decide_eq_true hg0] at hok
      cases hok
  · refine CallVC.freeze (fun _ hb => hb) rfl (i := 0) rfl k7 fun W8 l8 hs8 => ?_
    refine load_vc (xv := .slice A2 xs.length c2) (o0 := dO A2 xs.length c2 css2) hxs.symm (⟨css, hM.mono verD.mono l8, hs8⟩ : RL verD 3 W8 (.slice A L.length c) L) hnL hgL (fun hf S' lS => ?_) (fun hg0 hall A' c' css' W9 l9 hH => ?_)
    · rcases hf with hf | hf
      · rw [decide_eq_false (by omega)] at hok; cases hok
      · rw [hf, Bool.and_false] at hok; cases hok
    have hlen := hlen hall
    have hbd : ∀ e ∈ xs, BdC e.c := fun e he => (hHk.2 e he).1
    have hX := hX.mono verR.mono (PW.Le.trans l8 l9)
    refine ⟨_, rfl, _, rfl, rfl, ?_⟩
    refine call_m1O (o := histO A' xs.length c' css') (i := 1) (xs := histV (.slice A' xs.length c') gone) rfl rfl rfl rfl rfl rfl k9 (fun g' W10 l10 how hown1 hne1 => (gone_x xs css' A' c' gone g' W10 ⟨how, hown1, hne1, hH.mono entR.mono l10⟩).mono fun v W11 ⟨hv, hp⟩ l11 => ⟨_, _, hp.own, hp.ho, ?_⟩)
    subst hv
    have hH := hp.lr
    have hX := hX.mono verR.mono (PW.Le.trans l10 l11)
    refine ⟨rfl, ?_⟩
    apply br_nsplit
    · intro h; exact absurd rfl h
    intro _
    refine call_m1O (o := histO A' xs.length c' css') (i := 1) (xs := histV (.slice A' xs.length c') gone) rfl rfl rfl rfl rfl rfl k10 (fun g' W12 l12 how hown1 hne1 => (list_x xs css' A' c' gone g' W12 ⟨how, hown1, hne1, hH.mono entR.mono l12⟩ (by omega) hbd).mono fun v W13 ⟨hV, hp⟩ l13 => ⟨_, _, hp.own, hp.ho, ?_⟩)
    have hH := hp.lr
    have hX := hX.mono verR.mono (PW.Le.trans l12 l13)
    obtain ⟨Va, Vc, rfl, _, _⟩ := hV.form
    refine ⟨rfl, ?_⟩
    apply br_nsplit
    · intro h
      have h : ¬ (xs.length : Int) = L.length := h
      exact absurd (by rw [hlen]) h
    intro _
    obtain ⟨was, hwas⟩ : ∃ y, (atS xs gone rev).1 = y := ⟨_, rfl⟩
    obtain ⟨N, hN⟩ : ∃ y, atW xs gone rev = y := ⟨_, rfl⟩
    have hatc := fun g' W14 h => atw_x xs css' A' c' gone rev g' W14 h (by omega) hbd
    rw [hwas, hN] at hatc
    refine call_m1O (o := histO A' xs.length c' css') (i := 1) (xs := histV (.slice A' xs.length c') gone) rfl rfl rfl rfl rfl rfl k11 (fun g' W14 l14 how hown1 hne1 => (hatc g' W14 ⟨how, hown1, hne1, hH.mono entR.mono l14⟩).mono fun v W15 ⟨⟨cells, hv, hC⟩, hp⟩ l15 => ⟨_, _, hp.own, hp.ho, ?_⟩)
    subst hv
    have hX := hX.mono verR.mono (PW.Le.trans l14 l15)
    obtain ⟨b1, m1, d1, b2, m2, d2, rfl⟩ : ∃ b1 m1 d1 b2 m2 d2, cells = [.slice b1 m1 d1, .slice b2 m2 d2] := let ⟨b1, d1, b2, d2, e⟩ := hC.form; ⟨b1, _, d1, b2, _, d2, e⟩
    refine ⟨_, rfl, _, rfl, ?_⟩
    obtain ⟨p, hpp⟩ : ∃ p, lastI rev xs 0 (-1) = p := ⟨_, rfl⟩
    obtain ⟨z, hz⟩ : ∃ z, atI 0 p = z := ⟨_, rfl⟩
    have hdat := fun g' W16 h => dat_x xs css2 A2 c2 0 rev g' W16 h (by omega) (Nat.zero_le _)
    rw [List.drop_zero, hpp, hz] at hdat
    refine call_m1O (o := dO A2 xs.length c2 css2) (i := 0) (xs := dV (.slice A2 xs.length c2) 0) rfl rfl rfl rfl rfl rfl k12 (fun g' W16 l16 how hown1 hne1 => (hdat g' W16 ⟨how, hown1, hne1, hX.mono verR.mono l16⟩).mono fun v W17 ⟨hv, hp⟩ l17 => ⟨_, _, hp.own, hp.ho, ?_⟩)
    subst hv
    have hX := hp.lr
    have hat2 := (down_at hp.ho).1
    have hC := ConfR.mono _ _ _ _ (PW.Le.trans l16 l17) hC
    refine ⟨rfl, ?_⟩
    apply br_split
    · intro h2
      have h2 : z = 0 := h2
      have hp0 : p < 0 := by
        unfold atI at hz
        split at hz
        · assumption
        · omega
      rw [atW_no (by omega)] at hN
      rw [atS_no (by omega)] at hwas
      subst hwas
      refine ⟨rfl, ?_⟩
      apply br_split
      · intro _
        refine call_e (x := .bool true) rfl (fun W' lw => same_x noConf no_ok _ _ W' (ConfR.mono _ _ _ _ lw hC) (ConfR.no W')) (fun W18 l18 => ?_)
        refine call_e (x := .bool true) rfl (fun W' _ => splives_x W') (fun W19 l19 => ?_)
        exact ret_plain rfl fun _ _ => rfl
      · intro h; exact absurd hN.symm h
    · intro h2
      have h2 : ¬ z = 0 := h2
      rcases lastI_in (rev := rev) xs 0 (-1) with h3 | ⟨j, e, hx, _, hj⟩
      · rw [hpp] at h3
        unfold atI at hz
        rw [if_pos (by omega)] at hz
        exact absurd hz.symm h2
      rw [Nat.zero_add] at hj
      have hpj : p = j := by rw [← hpp, hj]
      have hjl := (List.getElem?_eq_some_iff.1 hx).1
      have hzj : z = (j : Int) + 1 := by
        rw [← hz, hpj]
        unfold atI
        rw [if_neg (by omega)]; omega
      have hws := atS_yes (gone := gone) hj hx
      rw [hws] at hwas
      have hsub := atW_sub (gone := gone) hj (by omega)
      rw [hN] at hsub
      obtain ⟨ec, hec⟩ : ∃ ec, e.c = ec := ⟨_, rfl⟩
      have hwas : ec = was := by rw [← hwas, ← hec]
      subst hwas
      have heok : okCB ec := by rw [← hec]; exact (hHk.2 e (List.mem_of_getElem? hx)).2
      obtain ⟨b, rfl, e', f1, k1, q1, f2, k2, q2, hx', hC', _, hrd⟩ := ver_at (c := c2) hX hat2 (j := (j : Int)) ⟨by omega, by omega⟩
      have hx' : xs[j]? = some e' := hx'
      rw [hx] at hx'
      obtain rfl := Option.some.inj hx'
      rw [hec] at hC'
      refine ⟨rfl, z, by rw [hsub, hzj], rfl, ?_⟩
      apply br_split
      · intro _
        refine ⟨rfl, (j : Int), by rw [hzj, i64_in _ ⟨by omega, by omega⟩]; omega, ⟨by omega, by omega⟩, b, rfl, [.slice f1 k1 q1, .slice f2 k2 q2], rfl, hrd _ 0 rfl, ?_⟩
        refine call_e (x := .bool true) rfl (fun W' lw => same_x ec heok _ _ W' (ConfR.mono _ _ _ _ lw hC) (ConfR.mono _ _ _ _ lw hC')) (fun W18 l18 => ?_)
        refine call_e (x := .bool true) rfl (fun W' _ => splives_x W') (fun W19 l19 => ?_)
        exact ret_plain rfl fun _ _ => rfl
      · intro h; exact absurd rfl h
end Go.Proofs.YtcgbcbdgjhnlaaaGreat
