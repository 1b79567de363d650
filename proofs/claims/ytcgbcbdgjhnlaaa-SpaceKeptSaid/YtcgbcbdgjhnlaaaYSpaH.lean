/- Layer 19 (space), walked: the law's events are cut; SpaceKept. -/
import Derived.Test.YtcgbcbdgjhnlaaaYSpaG
namespace Go.Proofs.Ytcgbcbdgjhnlaaa
open Go.RowKit

def doO (A : Option Addr) (n c : Nat) (css : List (List Value)) : Own := ⟨.slice A n c, 121, 4, n, css.flatten⟩
structure DoSt where
  i : Nat
  A : Option Addr
  c : Nat
  css : List (List Value)
set_option maxHeartbeats 8000000 in
theorem fewd_x (n : Nat) (hn : n ≤ 100) (l : List DoS) (u : Value) (W : PW) (h : RL doR 4 W u l) : CallsX Try.prog 70 ⟨[u, .int .i64 n]⟩ [] W fun v W' => RL doR 4 W' v (fewD n l) := by
  obtain ⟨a0, c0, rfl, _, _⟩ := h.form
  have hmax := maxLen_big
  refine pureNX hmix Try.func70 r70 (by kernel_rfl) [nilO 121 4] rfl [.slice a0 l.length c0, .int .i64 n] rfl ?_
  refine ⟨DoSt, fun t => [(5, .v (.slice t.A t.i t.c)), (6, .v (.int .i64 t.i))], fun _ => [], fun t => [doO t.A t.i t.c t.css], fun t W' => t.i ≤ n ∧ t.i ≤ l.length ∧ LR doR 4 W' (fewD t.i l) t.css, fun t => n - t.i, ⟨0, none, 0, []⟩,
    all_sl ⟨rfl, rfl, trivial⟩, rfl, ole_refl _, ⟨Nat.zero_le _, Nat.zero_le _, trivial⟩, loopOK (fun _ => ⟨⟨trivial, rfl⟩, ⟨trivial, rfl⟩, trivial⟩) (fun _ => rfl) (fun _ => rfl), ?_⟩
  rintro ⟨i, A, c, css⟩ W1 l1 ⟨hin, hil, hL⟩ fr
  dsimp only at hin hil hL
  have out : ¬ (i < n ∧ i < l.length) → ∀ W', W1.Le W' → SlRead W' (.slice A i c) i css.flatten → RL doR 4 W' (.slice A i c) (fewD n l) := fun hno W' l2 hr => by
    obtain ⟨e1, e2⟩ := take_step hno hin hil
    have e3 : fewD i l = fewD n l := by unfold fewD; rw [e1]
    have e4 : (fewD n l).length = i := by unfold fewD; rw [List.length_map]; exact e2.symm
    rw [e3] at hL
    exact ⟨css, hL.mono doR.mono l2, by rw [e4]; exact hr⟩
  refine ⟨rfl, ?_⟩
  apply br_split
  · intro h1
    have h1 : (i : Int) < l.length := h1
    refine ⟨rfl, ?_⟩
    apply br_split
    · intro h2
      have h2 : (i : Int) < n := h2
      obtain ⟨pc, rfl, d, cs, hx, hcl, hD, hall, hrds⟩ := h.at doR.mono l1 (j := i) ⟨by omega, h1⟩
      have hx : l[i]? = some d := hx
      obtain ⟨a1, n1, c1, a2, n2, c2, rfl, hC⟩ := hD.form
      obtain ⟨dk, hdk⟩ : ∃ k, d.kind = k := ⟨_, rfl⟩
      obtain ⟨dr, hdr⟩ : ∃ k, d.rev = k := ⟨_, rfl⟩
      rw [hdk, hdr] at hall hrds
      have hsub : Rds W1 ((pc.add ((i : Int).toNat * 4)).add 2) [.slice a1 n1 c1, .slice a2 n2 c2] := hrds.drop 2
      refine ⟨⟨by omega, h1⟩, pc, rfl, .int .i64 dk, (hall 0 _ rfl).o, ⟨by omega, h1⟩, pc, rfl, .int .u64 dr, (hall 1 _ rfl).o, ⟨by omega, h1⟩, pc, rfl, [.slice a1 n1 c1, .slice a2 n2 c2], rfl, hsub.o, ?_⟩
      refine call_v rfl (fun W' lw => few_x d.c _ W' (ConfR.mono _ _ _ _ lw hC)) (fun W2 v W3 l2 l3 hv => ?_)
      obtain ⟨cells, rfl, hC2⟩ := hv
      obtain ⟨b1, d1, b2, d2, rfl⟩ := hC2.form
      obtain ⟨m1, hm1⟩ : ∃ m, (fewC d.c).spaces.length = m := ⟨_, rfl⟩
      obtain ⟨m2, hm2⟩ : ∃ m, (fewC d.c).scopes.length = m := ⟨_, rfl⟩
      rw [hm1, hm2] at hC2 ⊢
      refine ⟨rfl, .inl ?_⟩
      intro bd Wd ld hrd
      refine ⟨0, _, [.int .i64 dk, .int .u64 dr, .slice b1 m1 d1, .slice b2 m2 d2], rfl, rfl, rfl, rfl, rfl, ?_, fun _ => ⟨_, rfl, hrd.o⟩, by show i + 1 ≤ maxLen; omega, by show (i + 1) * 64 ≤ 140737488355328; omega, rfl, @fun Ae ce _ => ?_⟩
      · intro u hu
        simp only [List.mem_cons, List.not_mem_nil, or_false] at hu
        rcases hu with rfl | rfl | rfl | rfl <;> rfl
      refine ⟨rfl, _, (i64_in ((i : Int) + 1) ⟨by omega, by omega⟩).symm, ⟨i + 1, Ae, ce, css ++ [[.int .i64 dk, .int .u64 dr, .slice b1 m1 d1, .slice b2 m2 d2]]⟩, all_sl ⟨rfl, rfl, trivial⟩, rfl, ole_eq ?_, ⟨by dsimp only; omega, by dsimp only; omega, ?_⟩, by dsimp only; omega⟩
      · have : (css ++ [[Value.int .i64 dk, .int .u64 dr, .slice b1 m1 d1, .slice b2 m2 d2]]).flatten = css.flatten ++ [.int .i64 dk, .int .u64 dr, .slice b1 m1 d1, .slice b2 m2 d2] := by simp
        unfold doO
        dsimp only
        rw [this]
        rfl
      · have : fewD (i + 1) l = fewD i l ++ [⟨d.kind, d.rev, fewC d.c⟩] := by unfold fewD; rw [List.take_add_one, hx]; simp
        dsimp only
        rw [this]
        have hRR : doR Wd ⟨d.kind, d.rev, fewC d.c⟩ [.int .i64 dk, .int .u64 dr, .slice b1 m1 d1, .slice b2 m2 d2] := ⟨_, _, by rw [hdk, hdr], ConfR.mono _ _ _ _ ld hC2⟩
        exact LR.snoc rfl hRR (hL.mono doR.mono (l2.trans (l3.trans ld)))
    · intro h2
      have h2 : ¬ (i : Int) < n := h2
      refine RetVC.freeze (i := 0) (fun _ hb => hb) rfl fun W3 l3 hfr => ?_
      exact ret_plain rfl fun W4 l4 => out (by omega) W4 (l3.trans l4) (SlRead.mono hfr l4)
  · intro h1
    have h1 : ¬ (i : Int) < l.length := h1
    refine RetVC.freeze (i := 0) (fun _ hb => hb) rfl fun W3 l3 hfr => ?_
    exact ret_plain rfl fun W4 l4 => out (by omega) W4 (l3.trans l4) (SlRead.mono hfr l4)

def goodD (d : DoS) : Prop := okCB d.c ∧ BdC d.c ∧ (rightN d.c = true → SmC d.c)
theorem fewD_good {n : Nat} {l : List DoS} (h : ∀ d ∈ l, anyC d.c) : ∀ d ∈ fewD n l, goodD d := by
  intro d hd
  unfold fewD at hd
  obtain ⟨d0, h0, rfl⟩ := List.mem_map.1 hd
  have ha := h d0 (List.mem_of_mem_take h0)
  exact ⟨few_ok ha, few_bd _, few_smc ha⟩
theorem fewD_len (n : Nat) (l : List DoS) : (fewD n l).length ≤ n := by
  unfold fewD; rw [List.length_map, List.length_take]; omega
theorem HOK.nil : HOK [] := ⟨by decide, fun e h => by cases h⟩

structure KpSt where
  i : Nat
  n : Nat
  xs : List EntS
  A : Option Addr
  c : Nat
  css : List (List Value)
  gone : Int
set_option maxHeartbeats 16000000 in
theorem kept_x (l m : List DoS) (rev : Int) (hl : ∀ d ∈ l, anyC d.c) (hm : ∀ d ∈ m, anyC d.c) (u v : Value) (W : PW) (hu : RL doR 4 W u l) (hv : RL doR 4 W v m) : CallsX Try.prog 19 ⟨[u, v, .int .u64 rev]⟩ [] W fun v _ => v = .bool true := by
  obtain ⟨ua, uc, rfl, _, _⟩ := hu.form
  obtain ⟨va, vc0, rfl, _, _⟩ := hv.form
  refine pureNX hmix Try.func19 r19 (by kernel_rfl) [nilO 196 4] rfl [.slice ua l.length uc, .slice va m.length vc0, .int .u64 rev] rfl ?_
  refine call_inlP hmix Try.func69 r69 (by kernel_rfl) rfl (fun g hg => absurd (show g ∈ ([] : List GV) from hg) (by simp)) (fun rc => ?_)
  refine ⟨Nat.zero_lt_one, ?_⟩
  refine call_v rfl (fun W' lw => fewd_x 8 (by decide) l _ W' (hu.mono doR.mono lw)) (fun W1 v W2 l1 l2 hv1 => ?_)
  refine call_v rfl (fun W' lw => fewd_x 8 (by decide) m _ W' (hv.mono doR.mono (l1.trans (l2.trans lw)))) (fun W3 w W4 l3 l4 hv2 => ?_)
  obtain ⟨L, hL⟩ : ∃ L, fewD 8 l = L := ⟨_, rfl⟩
  obtain ⟨M, hM⟩ : ∃ M, fewD 8 m = M := ⟨_, rfl⟩
  have hgL := fewD_good (n := 8) hl
  have hgM := fewD_good (n := 8) hm
  have hnL := fewD_len 8 l
  have hnM := fewD_len 8 m
  rw [hL] at hv1 hgL hnL
  rw [hM] at hv2 hgM hnM
  obtain ⟨La, Lc, rfl, _, _⟩ := hv1.form
  obtain ⟨Ma, Mc, rfl, _, _⟩ := hv2.form
  have hv1 := hv1.mono doR.mono (l3.trans l4)
  refine ⟨KpSt, fun t => [(8, .v (.int .i64 t.i))], fun t => [(histV (.slice t.A t.n t.c) 0).map .v], fun t => [histO t.A t.n t.c t.css], fun t W' => t.i ≤ L.length ∧ t.n = t.xs.length ∧ HOK t.xs ∧ LR entR 4 W' t.xs t.css, fun t => L.length - t.i, ⟨0, 0, [], none, 0, [], 0⟩,
    all_sl ⟨rfl, trivial⟩, rfl, ole_refl _, ⟨Nat.zero_le _, rfl, HOK.nil, trivial⟩, loopOK (fun _ => ⟨⟨trivial, rfl⟩, trivial⟩) (fun _ => rfl) (fun _ => rfl), ?_⟩
  rintro ⟨i, n, xs, A, c, css, _⟩ W5 l5 ⟨hi, hnx, hok, hH⟩ fr
  dsimp only at hi hnx hok hH
  refine ⟨rfl, ?_⟩
  apply br_split
  · intro h1
    have hq : (i : Int) < L.length := h1
    obtain ⟨pc, rfl, d, cs, hx, hcl, hD, hall, hrds⟩ := hv1.at doR.mono l5 (j := i) ⟨by omega, hq⟩
    have hx : L[i]? = some d := hx
    obtain ⟨g1, g2, g3⟩ := hgL d (List.mem_of_getElem? hx)
    obtain ⟨a1, n1, c1, a2, n2, c2, rfl, hC⟩ := hD.form
    obtain ⟨dk, hdk⟩ : ∃ k, d.kind = k := ⟨_, rfl⟩
    obtain ⟨dr, hdr⟩ : ∃ k, d.rev = k := ⟨_, rfl⟩
    rw [hdk, hdr] at hall hrds
    have hsub : Rds W5 ((pc.add ((i : Int).toNat * 4)).add 2) [.slice a1 n1 c1, .slice a2 n2 c2] := hrds.drop 2
    refine ⟨⟨by omega, hq⟩, pc, rfl, .int .i64 dk, (hall 0 _ rfl).o, rfl, ?_⟩
    apply br_split
    · intro h2
      refine ⟨⟨by omega, hq⟩, pc, rfl, .int .u64 dr, (hall 1 _ rfl).o, ⟨by omega, hq⟩, pc, rfl, [.slice a1 n1 c1, .slice a2 n2 c2], rfl, hsub.o, ?_⟩
      subst hnx
      refine call_m1O (o := histO A xs.length c css) (i := 0) (xs := histV (.slice A xs.length c) 0) rfl rfl rfl rfl rfl rfl k71 (fun g' W6 l6 how hown1 hne1 => (add_x xs css A c 0 dr d.c _ g' W6 ⟨how, hown1, hne1, hH.mono entR.mono l6⟩ (by have := hok.1; omega) g1 g3 g2 (ConfR.mono _ _ _ _ l6 hC)).mono fun v W7 ⟨_, A', c', css', hp⟩ l7 => ⟨_, _, hp.own, hp.ho, ?_⟩)
      refine ⟨rfl, _, (i64_in ((i : Int) + 1) ⟨by omega, by omega⟩).symm, ⟨i + 1, (addS xs dr d.c).1.length, (addS xs dr d.c).1, A', c', css', 0⟩, all_sl ⟨rfl, trivial⟩, rfl, ole_refl _, ⟨by dsimp only; omega, rfl, addS_ok hok g2 g1, hp.lr⟩, by dsimp only; omega⟩
    · intro h2
      exact ⟨rfl, _, (i64_in ((i : Int) + 1) ⟨by omega, by omega⟩).symm, ⟨i + 1, n, xs, A, c, css, 0⟩, all_sl ⟨rfl, trivial⟩, rfl, ole_refl _, ⟨by dsimp only; omega, hnx, hok, hH⟩, by dsimp only; omega⟩
  intro _
  subst hnx
  refine call_m1O (o := histO A xs.length c css) (i := 0) (xs := histV (.slice A xs.length c) 0) rfl rfl rfl rfl rfl rfl k72 (fun g' W6 l6 how hown1 hne1 => (at_x xs css A c 0 rev g' W6 ⟨how, hown1, hne1, hH.mono entR.mono l6⟩ (by have := hok.1; omega) (by decide) (fun e he => (hok.2 e he).1)).mono fun v W7 ⟨⟨cells, hv, hC⟩, hp⟩ l7 => ⟨_, _, hp.own, hp.ho, ?_⟩)
  subst hv
  have hH := hp.lr
  have hv2 := hv2.mono doR.mono (l5.trans (l6.trans l7))
  obtain ⟨b1, d1, b2, d2, rfl⟩ := hC.form
  obtain ⟨was, hwas⟩ : ∃ y, atS xs 0 rev = y := ⟨_, rfl⟩
  have hwok : okCB was.1 := by
    rw [← hwas]
    rcases lastI_in (rev := rev) xs 0 (-1) with h | ⟨j, x, hx, _, hj⟩
    · rw [atS_no (by omega)]; exact no_ok
    · rw [atS_yes (by rw [hj, Nat.zero_add]) hx]; exact (hok.2 x (List.mem_of_getElem? hx)).2
  rw [hwas] at hC ⊢
  obtain ⟨wn, hwn⟩ : ∃ y, was.2 = y := ⟨_, rfl⟩
  obtain ⟨m1, hm1⟩ : ∃ y, was.1.spaces.length = y := ⟨_, rfl⟩
  obtain ⟨m2, hm2⟩ : ∃ y, was.1.scopes.length = y := ⟨_, rfl⟩
  rw [hwn, hm1, hm2]
  rw [hm1, hm2] at hC
  refine ⟨_, rfl, _, rfl, ?_⟩
  refine call_m1O (o := histO A xs.length c css) (i := 0) (xs := histV (.slice A xs.length c) 0) rfl rfl rfl rfl rfl rfl k73 (fun g' W8 l8 how hown1 hne1 => (list_x xs css A c 0 g' W8 ⟨how, hown1, hne1, hH.mono entR.mono l8⟩ (by have := hok.1; omega) (fun e he => (hok.2 e he).1)).mono fun v W9 ⟨hV, hp⟩ l9 => ⟨_, _, hp.own, hp.ho, ?_⟩)
  have hH := hp.lr
  have hC := ConfR.mono _ _ _ _ (l8.trans l9) hC
  have hv2 := hv2.mono doR.mono (l8.trans l9)
  obtain ⟨Va, Vc, rfl, _, _⟩ := hV.form
  refine ⟨rfl, ?_⟩
  apply br_split
  · intro _
    refine call_v rfl (fun W' _ => splives_x W') (fun W2 v W3 _ _ hv => ?_)
    subst hv
    exact ret_plain rfl fun _ _ => rfl
  intro h1
  have h1 : ¬ (xs.length : Int) = 0 := h1
  have hle : xs.length ≤ 16 := hok.1
  obtain ⟨pc, rfl, e, cs, hx, _, ⟨e1, e2, e3, e4, e5, e6, rfl, _⟩, hall, _⟩ := hV.at verR.mono (PW.Le.refl _) (j := (xs.length : Int) - 1) ⟨by omega, by omega⟩
  have hx : xs[xs.length - 1]? = some e := by rw [← hx]; congr 1; omega
  obtain ⟨er, her⟩ : ∃ k, e.rev = k := ⟨_, rfl⟩
  rw [her] at hall
  refine ⟨rfl, _, (i64_in ((xs.length : Int) - 1) ⟨by omega, by omega⟩).symm, ⟨by omega, by omega⟩, pc, rfl, .int .u64 er, (hall 0 _ rfl).o, rfl, ?_⟩
  apply br_split
  · intro _
    refine call_v rfl (fun W' _ => splives_x W') (fun W2 v W3 _ _ hv => ?_)
    subst hv
    exact ret_plain rfl fun _ _ => rfl
  intro h2
  have h2 : ¬ er < rev := h2
  have hlate : Late rev xs := ⟨e, hx, by omega⟩
  refine ⟨KpSt, fun t => [(12, .v (.int .i64 t.i))], fun t => [(histV (.slice t.A t.n t.c) t.gone).map .v, [.v (.slice b1 m1 d1), .v (.slice b2 m2 d2)]], fun t => [histO t.A t.n t.c t.css], fun t W' => t.i ≤ M.length ∧ t.n = t.xs.length ∧ HOK t.xs ∧ LR entR 4 W' t.xs t.css ∧ 0 ≤ t.gone ∧ t.gone ≤ 16 * t.i ∧ atS t.xs t.gone rev = was ∧ Late rev t.xs, fun t => M.length - t.i, ⟨0, xs.length, xs, A, c, css, 0⟩,
    all_sl ⟨rfl, trivial⟩, rfl, ole_refl _, ⟨Nat.zero_le _, rfl, hok, hH, Int.le_refl _, by show (0 : Int) ≤ 16 * ((0 : Nat) : Int); decide, hwas, hlate⟩, loopOK (fun _ => ⟨⟨trivial, rfl⟩, trivial⟩) (fun _ => rfl) (fun _ => rfl), ?_⟩
  rintro ⟨i, n, ys, D, dc, yss, gn⟩ WA lA ⟨hi, hny, hoky, hHy, hg0, hg1, hat, hlt⟩ fr
  dsimp only at hi hny hoky hHy hg0 hg1 hat hlt
  refine ⟨rfl, ?_⟩
  apply br_split
  · intro h1
    have hq : (i : Int) < M.length := h1
    obtain ⟨pe, rfl, d, cs, hx, hcl, hD, hall, hrds⟩ := hv2.at doR.mono lA (j := i) ⟨by omega, hq⟩
    have hx : M[i]? = some d := hx
    obtain ⟨g1, g2, g3⟩ := hgM d (List.mem_of_getElem? hx)
    obtain ⟨a1, n1, c1, a2, n2, c2, rfl, hDC⟩ := hD.form
    have hmore := more_at (rev := rev) (h := (ys, gn)) (d := d) hlt
    dsimp only at hmore
    have hdef : moreE rev (ys, gn) d = (if d.kind = 0 then ((addS ys d.rev d.c).1, gn) else if d.rev ≤ rev then collS d.rev ys gn else (ys, gn)) := rfl
    obtain ⟨dk, hdk⟩ : ∃ k, d.kind = k := ⟨_, rfl⟩
    obtain ⟨dr, hdr⟩ : ∃ k, d.rev = k := ⟨_, rfl⟩
    rw [hdk, hdr] at hall hrds hdef
    rw [hat] at hmore
    have hsub : Rds WA ((pe.add ((i : Int).toNat * 4)).add 2) [.slice a1 n1 c1, .slice a2 n2 c2] := hrds.drop 2
    subst hny
    refine ⟨⟨by omega, hq⟩, pe, rfl, .int .i64 dk, (hall 0 _ rfl).o, rfl, ?_⟩
    apply br_split
    · intro h2
      have h2 : dk = 0 := h2
      rw [if_pos h2] at hdef
      rw [hdef] at hmore
      refine ⟨⟨by omega, hq⟩, pe, rfl, .int .u64 dr, (hall 1 _ rfl).o, ⟨by omega, hq⟩, pe, rfl, [.slice a1 n1 c1, .slice a2 n2 c2], rfl, hsub.o, ?_⟩
      refine call_m1O (o := histO D ys.length dc yss) (i := 0) (xs := histV (.slice D ys.length dc) gn) rfl rfl rfl rfl rfl rfl k71 (fun g' W6 l6 how hown1 hne1 => (add_x ys yss D dc gn dr d.c _ g' W6 ⟨how, hown1, hne1, hHy.mono entR.mono l6⟩ (by have := hoky.1; omega) g1 g3 g2 (ConfR.mono _ _ _ _ l6 hDC)).mono fun v W7 ⟨_, A', c', css', hp⟩ l7 => ⟨_, _, hp.own, hp.ho, ?_⟩)
      exact ⟨rfl, _, (i64_in ((i : Int) + 1) ⟨by omega, by omega⟩).symm, ⟨i + 1, (addS ys dr d.c).1.length, (addS ys dr d.c).1, A', c', css', gn⟩, all_sl ⟨rfl, trivial⟩, rfl, ole_refl _, ⟨by dsimp only; omega, rfl, addS_ok hoky g2 g1, hp.lr, hg0, by dsimp only; omega, hmore.1, hmore.2⟩, by dsimp only; omega⟩
    · intro h2
      have h2 : ¬ dk = 0 := h2
      rw [if_neg h2] at hdef
      refine ⟨⟨by omega, hq⟩, pe, rfl, .int .u64 dr, (hall 1 _ rfl).o, rfl, ?_⟩
      apply br_split
      · intro h3
        have h3 : dr ≤ rev := h3
        rw [if_pos h3] at hdef
        rw [hdef] at hmore
        refine ⟨⟨by omega, hq⟩, pe, rfl, .int .u64 dr, (hall 1 _ rfl).o, ?_⟩
        obtain ⟨k1, k2, k3, k4⟩ := collS_ok dr ys gn
        have hle := hoky.1
        refine call_m1O (o := histO D ys.length dc yss) (i := 0) (xs := histV (.slice D ys.length dc) gn) rfl rfl rfl rfl rfl rfl k75 (fun g' W6 l6 how hown1 hne1 => (collect_x ys yss D dc gn dr g' W6 ⟨how, hown1, hne1, hHy.mono entR.mono l6⟩ (by omega) ⟨hg0, by omega⟩).mono fun v W7 ⟨_, A', c', css', hp⟩ l7 => ⟨_, _, hp.own, hp.ho, ?_⟩)
        exact ⟨rfl, _, (i64_in ((i : Int) + 1) ⟨by omega, by omega⟩).symm, ⟨i + 1, (collS dr ys gn).1.length, (collS dr ys gn).1, A', c', css', (collS dr ys gn).2⟩, all_sl ⟨rfl, trivial⟩, rfl, ole_refl _, ⟨by dsimp only; omega, rfl, ⟨by dsimp only; omega, fun e he => hoky.2 e (k2 e he)⟩, hp.lr, by dsimp only; omega, by dsimp only; omega, hmore.1, hmore.2⟩, by dsimp only; omega⟩
      · intro h3
        exact ⟨rfl, _, (i64_in ((i : Int) + 1) ⟨by omega, by omega⟩).symm, ⟨i + 1, ys.length, ys, D, dc, yss, gn⟩, all_sl ⟨rfl, trivial⟩, rfl, ole_refl _, ⟨by dsimp only; omega, rfl, hoky, hHy, hg0, by dsimp only; omega, hat, hlt⟩, by dsimp only; omega⟩
  intro _
  subst hny
  refine call_m1O (o := histO D ys.length dc yss) (i := 0) (xs := histV (.slice D ys.length dc) gn) rfl rfl rfl rfl rfl rfl k72 (fun g' WB lB how hown1 hne1 => (at_x ys yss D dc gn rev g' WB ⟨how, hown1, hne1, hHy.mono entR.mono lB⟩ (by have := hoky.1; omega) ⟨hg0, by omega⟩ (fun e he => (hoky.2 e he).1)).mono fun v WC ⟨⟨cells, hv, hC2⟩, hp⟩ lC => ⟨_, _, hp.own, hp.ho, ?_⟩)
  subst hv
  rw [hat] at hC2 ⊢
  obtain ⟨f1, k1, f2, k2, rfl⟩ := hC2.form
  rw [hm1, hm2] at hC2 ⊢
  rw [hwn]
  have hC := ConfR.mono _ _ _ _ (lA.trans (lB.trans lC)) hC
  refine ⟨_, rfl, _, rfl, rfl, br_yes rfl ?_⟩
  refine call_v rfl (fun W' lw => same_x was.1 hwok _ _ W' (ConfR.mono _ _ _ _ lw hC) (ConfR.mono _ _ _ _ lw hC2)) (fun W7 v W8 l7 l8 hv => ?_)
  subst hv
  refine call_v rfl (fun W' _ => splives_x W') (fun W2 v W3 _ _ hv => ?_)
  subst hv
  exact ret_plain rfl fun _ _ => rfl
end Go.Proofs.Ytcgbcbdgjhnlaaa

