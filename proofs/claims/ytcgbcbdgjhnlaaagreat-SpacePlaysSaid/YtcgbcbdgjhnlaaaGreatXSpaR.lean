/- Layer 19 (space), walked: the law SpacePlays. -/
import Derived.Test.YtcgbcbdgjhnlaaaGreatXSpaQ
namespace Go.Proofs.YtcgbcbdgjhnlaaaGreat
open Go.RowKit

theorem addS_good {xs : List EntS} {rev : Int} {c : ConfS} (h : GoodE xs) (hb : BdC c) (ho : okCB c) : GoodE (addS xs rev c).1 := by
  unfold addS
  split
  · exact h
  · split
    · exact h
    · split
      · exact h
      · refine ⟨by dsimp only; rw [List.length_append, List.length_singleton]; omega, fun e he => ?_⟩
        rcases List.mem_append.1 he with he | he
        · exact h.2 e he
        · rw [List.mem_singleton.1 he]; exact ⟨hb, ho, rfl⟩
theorem dadd_pre {ys xs : List EntS} {gone : Nat} (hd : ys.drop gone = xs) (hgn : gone ≤ ys.length) (rev : Int) (c : ConfS) :
    (daddS ys gone rev c).2 = (addS xs rev c).2 ∧ (daddS ys gone rev c).1.drop gone = (addS xs rev c).1 ∧ gone ≤ (daddS ys gone rev c).1.length ∧ (daddS ys gone rev c).1.length ≤ ys.length + 1 := by
  have hl : xs.length = ys.length - gone := by rw [← hd, List.length_drop]
  have hc : (gone < ys.length ∧ ∃ e, ys[ys.length - 1]? = some e ∧ rev ≤ e.rev) = (∃ e, xs[xs.length - 1]? = some e ∧ rev ≤ e.rev) := by
    have hg : gone < ys.length → xs[xs.length - 1]? = ys[ys.length - 1]? := fun h => by
      rw [← hd, List.getElem?_drop, List.length_drop]; congr 1; omega
    refine propext ⟨fun ⟨h1, e, h2, h3⟩ => ⟨e, by rw [hg h1]; exact h2, h3⟩, fun ⟨e, h2, h3⟩ => ?_⟩
    have h4 : gone < ys.length := by have := (List.getElem?_eq_some_iff.1 h2).1; omega
    exact ⟨h4, e, by rw [← hg h4]; exact h2, h3⟩
  unfold daddS addS
  rw [← hl]
  simp only [hc]
  split
  · exact ⟨rfl, hd, hgn, Nat.le_succ _⟩
  · split
    · exact ⟨rfl, hd, hgn, Nat.le_succ _⟩
    · split
      · exact ⟨rfl, hd, hgn, Nat.le_succ _⟩
      · refine ⟨rfl, ?_, ?_, ?_⟩
        · dsimp only; rw [List.drop_append_of_le_length hgn, hd]
        · dsimp only; rw [List.length_append]; omega
        · dsimp only; rw [List.length_append]; exact Nat.le_refl _
structure PlSt where
  i : Nat
  xs : List EntS
  A : Option Addr
  c : Nat
  css : List (List Value)
  gone : Nat
  ys : List EntS
  A2 : Option Addr
  c2 : Nat
  css2 : List (List Value)
structure PlI (W : PW) (i : Nat) (t : PlSt) : Prop where
  d : t.ys.drop t.gone = t.xs
  gn : t.gone ≤ t.ys.length
  n : t.ys.length ≤ i
  g : GoodE t.xs
  h : LR entR 4 W t.xs t.css
  x : LR verR 3 W t.ys t.css2
  at_ : OwnAt t.A2 t.ys.length
set_option maxRecDepth 20000 in
set_option maxHeartbeats 16000000 in
theorem plays_x (l : List DoS) (hl : ∀ d ∈ l, anyC d.c) (u : Value) (W : PW) (hu : RL doR 4 W u l) : CallsX Tryz.prog 4 ⟨[u]⟩ [] W fun v _ => v = .bool true := by
  obtain ⟨ua, uc, rfl, _, _⟩ := hu.form
  refine pureNX hmix Tryz.func4 r4 (by kernel_rfl) [nilO 66 4, nilO 50 3] rfl [.slice ua l.length uc] rfl ?_
  refine call_v rfl (fun W' lw => fewd_x 22 (by decide) l _ W' (hu.mono doR.mono lw)) (fun W1 v W2 l1 l2 hv1 => ?_)
  obtain ⟨L, hL⟩ : ∃ L, fewD 22 l = L := ⟨_, rfl⟩
  have hgL := fewD_good (n := 22) hl
  have hnL := fewD_len 22 l
  rw [hL] at hv1 hgL hnL
  obtain ⟨La, Lc, rfl, _, _⟩ := hv1.form
  refine call_inlP hmix Tryz.func14 r14 (by kernel_rfl) rfl (fun g hg => absurd (show g ∈ ([] : List GV) from hg) (by simp)) (fun rc => ?_)
  refine ⟨Nat.zero_lt_one, ?_⟩
  refine ⟨PlSt, fun t => [(5, .v (.int .i64 t.i))], fun t => [(histV (.slice t.A t.xs.length t.c) t.gone).map .v, (dV (.slice t.A2 t.ys.length t.c2) t.gone).map .v], fun t => [histO t.A t.xs.length t.c t.css, dO t.A2 t.ys.length t.c2 t.css2], fun t W' => t.i ≤ L.length ∧ PlI W' t.i t, fun t => L.length - t.i, ⟨0, [], none, 0, [], 0, [], none, 0, []⟩,
    all_sl ⟨rfl, trivial⟩, rfl, ole_refl _, ⟨Nat.zero_le _, rfl, Nat.le_refl _, Nat.le_refl _, ⟨by decide, fun e h => by cases h⟩, trivial, trivial, fun h => absurd h (Nat.lt_irrefl 0)⟩, loopOK (fun _ => ⟨⟨trivial, rfl⟩, trivial⟩) (fun _ => rfl) (fun _ => rfl), ?_⟩
  rintro ⟨i, xs, A, c, css, gone, ys, A2, c2, css2⟩ W5 l5 ⟨hi, hd, hgn, hn, hg, hH, hX, hAt⟩ fr
  dsimp only at hi hd hgn hn hg hH hX hAt
  refine vc_cut (fun f' S' => S' = ⟨[(histV (.slice A xs.length c) gone).map .v, (dV (.slice A2 ys.length c2) gone).map .v], [histO A xs.length c css, dO A2 ys.length c2 css2], W5⟩ ∧ i < L.length ∧ AllSl f' [(0, .v (.slice La L.length Lc)), (3, .lp 0 0), (4, .lp 1 0), (5, .v (.int .i64 i))]) ?_ ?_
  · refine ⟨rfl, ?_⟩
    apply br_split
    · intro h1
      have h1 : (i : Int) < L.length := h1
      exact ⟨rfl, by omega, ⟨rfl, rfl, rfl, rfl, trivial⟩⟩
    · intro h1
      refine call_e (x := .bool true) rfl (fun W' _ => splives_x W') (fun W19 l19 => ?_)
      exact ret_plain rfl fun _ _ => rfl
  rintro f3 S3 ⟨rfl, hil, hfr⟩
  have hq : (i : Int) < L.length := by omega
  have hxl := hg.1
  refine vc_cut (fun f' S' => ∃ (t : PlSt) (w2 w3 : List PV) (W6 : PW), S' = ⟨[(histV (.slice t.A t.xs.length t.c) t.gone).map .v, (dV (.slice t.A2 t.ys.length t.c2) t.gone).map .v, w2, w3], [histO t.A t.xs.length t.c t.css, dO t.A2 t.ys.length t.c2 t.css2], W6⟩ ∧ W5.Le W6 ∧ PlI W6 (i + 1) t ∧ AllSl f' [(5, .v (.int .i64 i))]) ?_ ?_
  rotate_left
  · rintro f4 S4 ⟨⟨_, xs, A, c, css, gone, ys, A2, c2, css2⟩, w2, w3, W6, rfl, l6, hI, hfr4⟩
    refine vc_at _ hfr4 ?_
    exact ⟨rfl, _, (i64_in ((i : Int) + 1) ⟨by omega, by omega⟩).symm, ⟨i + 1, xs, A, c, css, gone, ys, A2, c2, css2⟩, all_sl ⟨rfl, trivial⟩, rfl, ole_refl _, ⟨by dsimp only; omega, hI.d, hI.gn, hI.n, hI.g, hI.h, hI.x, hI.at_⟩, by dsimp only; omega⟩
  refine vc_block ?_
  refine vc_at _ hfr ?_
  clear hfr
  obtain ⟨pc, rfl, d, cs, hx, _, hD, hall, hrds⟩ := hv1.at doR.mono l5 (j := (i : Int)) ⟨by omega, hq⟩
  have hx : L[i]? = some d := hx
  obtain ⟨g1, g2, g3⟩ := hgL d (List.mem_of_getElem? hx)
  obtain ⟨a1, n1, d1, a2, n2, d2, rfl, hC⟩ := hD.form
  obtain ⟨dk, hdk⟩ : ∃ k, d.kind = k := ⟨_, rfl⟩
  obtain ⟨dr, hdr⟩ : ∃ k, d.rev = k := ⟨_, rfl⟩
  rw [hdk, hdr] at hall hrds
  have hsub : Rds W5 ((pc.add ((i : Int).toNat * 4)).add 2) [.slice a1 n1 d1, .slice a2 n2 d2] := hrds.drop 2
  refine vc_cut (fun f' S' => ∃ (t : PlSt) (W6 : PW), S' = ⟨[(histV (.slice t.A t.xs.length t.c) t.gone).map .v, (dV (.slice t.A2 t.ys.length t.c2) t.gone).map .v], [histO t.A t.xs.length t.c t.css, dO t.A2 t.ys.length t.c2 t.css2], W6⟩ ∧ W5.Le W6 ∧ PlI W6 (i + 1) t ∧ AllSl f' [(0, .v (.slice (some pc) L.length Lc)), (3, .lp 0 0), (4, .lp 1 0), (5, .v (.int .i64 i))]) ?_ ?_
  · refine ⟨⟨by omega, hq⟩, pc, rfl, .int .i64 dk, (hall 0 _ rfl).o, rfl, ?_⟩
    apply br_split
    · intro _
      obtain ⟨hp1, hp2, hp3, hp4⟩ := dadd_pre hd hgn dr d.c
      have hac := fun g' W6 h hC => add_x xs css A c gone dr d.c [.slice a1 n1 d1, .slice a2 n2 d2] g' W6 h (by omega) g1 g3 g2 hC
      have hdc := fun g' W6 h hC => dadd_x ys css2 A2 c2 gone dr d.c [.slice a1 n1 d1, .slice a2 n2 d2] g' W6 h (by omega) hgn g1 g2 hC
      have hgood := addS_good (rev := dr) hg g2 g1
      obtain ⟨R, hR⟩ : ∃ R, addS xs dr d.c = R := ⟨_, rfl⟩
      obtain ⟨R2, hR2⟩ : ∃ R, daddS ys gone dr d.c = R := ⟨_, rfl⟩
      rw [hR] at hac hp1 hp2 hgood
      rw [hR2] at hdc hp1 hp2 hp3 hp4
      obtain ⟨xs', code⟩ := R
      obtain ⟨ys', code2⟩ := R2
      dsimp only at hac hdc hp1 hp2 hp3 hp4 hgood
      subst hp1
      refine ⟨⟨by omega, hq⟩, pc, rfl, .int .u64 dr, (hall 1 _ rfl).o, .inl ⟨⟨by omega, hq⟩, pc, rfl, [.slice a1 n1 d1, .slice a2 n2 d2], rfl, hsub.o, .inl ⟨⟨by omega, hq⟩, pc, rfl, .int .u64 dr, (hall 1 _ rfl).o, .inr ⟨⟨.int .u64 dr, hall 1 _ rfl⟩, ⟨by omega, hq⟩, pc, rfl, [.slice a1 n1 d1, .slice a2 n2 d2], rfl, hsub.o, .inr ⟨⟨[.slice a1 n1 d1, .slice a2 n2 d2], rfl, hsub⟩, ?_⟩⟩⟩⟩⟩
      refine call_m1O (o := histO A xs.length c css) (i := 0) (xs := histV (.slice A xs.length c) gone) rfl rfl rfl rfl rfl rfl k15 (fun g' W6 l6 how hown1 hne1 => (hac g' W6 ⟨how, hown1, hne1, hH.mono entR.mono l6⟩ (ConfR.mono _ _ _ _ l6 hC)).mono fun v W7 ⟨hv, A', c', css', hp⟩ l7 => ⟨_, _, hp.own, hp.ho, ?_⟩)
      subst hv
      have hH2 := hp.lr
      refine call_m1O (o := dO A2 ys.length c2 css2) (i := 1) (xs := dV (.slice A2 ys.length c2) gone) rfl rfl rfl rfl rfl rfl k6 (fun g' W8 l8 how hown1 hne1 => (hdc g' W8 ⟨how, hown1, hne1, hX.mono verR.mono (l6.trans (PW.Le.trans l7 l8))⟩ (ConfR.mono _ _ _ _ (l6.trans (PW.Le.trans l7 l8)) hC)).mono fun v W9 ⟨hv, A3, c3, css3, hp⟩ l9 => ⟨_, _, hp.own, hp.ho, ?_⟩)
      subst hv
      refine ⟨rfl, ?_⟩
      apply br_nsplit
      · intro h; exact absurd rfl h
      intro _
      exact ⟨⟨i, xs', A', c', css', gone, ys', A3, c3, css3⟩, W9, rfl, l6.trans (PW.Le.trans l7 (PW.Le.trans l8 l9)), ⟨hp2, hp3, by dsimp only; omega, hgood, hH2.mono entR.mono (PW.Le.trans l8 l9), hp.lr, (down_at hp.ho).1⟩, ⟨rfl, rfl, rfl, rfl, trivial⟩⟩
    · intro _
      refine ⟨rfl, ?_⟩
      apply br_split
      · intro _
        refine ⟨⟨by omega, hq⟩, pc, rfl, .int .u64 dr, (hall 1 _ rfl).o, ?_⟩
        have hgI : (0 : Int) ≤ (gone : Int) ∧ (gone : Int) ≤ 1000000 := ⟨Int.natCast_nonneg _, by omega⟩
        refine call_m1O (o := histO A xs.length c css) (i := 0) (xs := histV (.slice A xs.length c) gone) rfl rfl rfl rfl rfl rfl k16 (fun g' W6 l6 how hown1 hne1 => (collect_x xs css A c gone dr g' W6 ⟨how, hown1, hne1, hH.mono entR.mono l6⟩ (by omega) hgI).mono fun v W7 ⟨hv, A', c', css', hp⟩ l7 => ⟨_, _, hp.own, hp.ho, ?_⟩)
        subst hv
        have hH2 := hp.lr
        have l67 := l6.trans l7
        refine ⟨⟨by omega, hq⟩, pc, rfl, .int .u64 dr, ((hall 1 _ rfl).mono l67).o, ?_⟩
        refine call_m1O (o := dO A2 ys.length c2 css2) (i := 1) (xs := dV (.slice A2 ys.length c2) gone) rfl rfl rfl rfl rfl rfl k17 (fun g' W8 l8 how hown1 hne1 => (dcoll_x ys css2 A2 c2 gone dr g' W8 ⟨how, hown1, hne1, hX.mono verR.mono (PW.Le.trans l67 l8)⟩ (by omega) hgn).mono fun v W9 ⟨hv, j, hcj, hj1, hj2, hp⟩ l9 => ⟨_, _, hp.own, hp.ho, ?_⟩)
        subst hv
        rw [hd] at hcj
        obtain ⟨q1, q2, _, _⟩ := collS_ok dr xs gone
        rw [hcj] at q1 q2 hH2
        refine ⟨⟨i, ys.drop j, A', c', css', j, ys, A2, c2, css2⟩, W9, by rw [hcj]; rfl, PW.Le.trans l67 (PW.Le.trans l8 l9), ⟨rfl, hj2, by dsimp only; omega, ⟨by dsimp only at q1 ⊢; omega, fun e he => hg.2 e (q2 e he)⟩, hH2.mono entR.mono (PW.Le.trans l8 l9), hp.lr, hAt⟩, ⟨rfl, rfl, rfl, rfl, trivial⟩⟩
      · intro _
        exact ⟨⟨i, xs, A, c, css, gone, ys, A2, c2, css2⟩, W5, rfl, PW.Le.refl _, ⟨hd, hgn, by dsimp only; omega, hg, hH, hX, hAt⟩, ⟨rfl, rfl, rfl, rfl, trivial⟩⟩
  rintro f4 S4 ⟨⟨_, xs, A, c, css, gone, ys, A2, c2, css2⟩, W6, rfl, l56, ⟨hd, hgn, hn, hg, hH, hX, hAt⟩, hfr⟩
  dsimp only at hd hgn hn hg hH hX hAt
  refine vc_at _ hfr ?_
  clear hfr
  dsimp only
  refine call_made rfl rfl rfl (fun W7 l7 => ?_)
  refine ⟨⟨by omega, hq⟩, pc, rfl, .int .u64 dr, ((hall 1 _ rfl).mono (l56.trans l7)).o, ?_⟩
  refine same_vc (xs := xs) (ys := ys) (css := css) (css2 := css2) (A := A) (A2 := A2) (c := c) (c2 := c2) (gone := gone) (rev := dr) (W := W7) hd hgn (by omega) hg (hH.mono entR.mono l7) (hX.mono verR.mono l7) hAt (fun w2 w3 W8 l8 hH2 hX2 => ?_)
  exact ⟨⟨i, xs, A, c, css, gone, ys, A2, c2, css2⟩, w2, w3, W8, rfl, l56.trans (PW.Le.trans l7 l8), ⟨hd, hgn, hn, hg, hH2, hX2, hAt⟩, ⟨rfl, trivial⟩⟩
end Go.Proofs.YtcgbcbdgjhnlaaaGreat
