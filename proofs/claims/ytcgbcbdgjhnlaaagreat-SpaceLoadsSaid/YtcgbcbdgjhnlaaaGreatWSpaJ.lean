/- Layer 19 (space), walked: versions loaded. No statement is proved here. -/
import Derived.Test.YtcgbcbdgjhnlaaaGreatWMI
import Derived.Test.YtcgbcbdgjhnlaaaGreatWMJ
namespace Go.Proofs.YtcgbcbdgjhnlaaaGreat
open Go.RowKit

def atW (xs : List EntS) (gone rev : Int) : Int := if lastI rev xs 0 (-1) < 0 then 0 else IntKind.i64.wrap (IntKind.i64.wrap (gone + lastI rev xs 0 (-1)) + 1)
theorem atW_no {xs : List EntS} {gone rev : Int} (h : lastI rev xs 0 (-1) < 0) : atW xs gone rev = 0 := if_pos h
theorem atW_yes {xs : List EntS} {gone rev : Int} {i : Nat} (h : lastI rev xs 0 (-1) = i) : atW xs gone rev = IntKind.i64.wrap (IntKind.i64.wrap (gone + i) + 1) := by
  unfold atW
  rw [h, if_neg (by omega)]
theorem atW_sub {xs : List EntS} {gone rev : Int} {i : Nat} (h : lastI rev xs 0 (-1) = i) (hi : i ≤ 1000) : IntKind.i64.wrap (atW xs gone rev - gone) = (i : Int) + 1 := by
  rw [atW_yes h]
  simp only [IntKind.wrap_i64]
  omega
set_option maxHeartbeats 4000000 in
theorem atw_x (xs : List EntS) (css : List (List Value)) (A : Option Addr) (c : Nat) (gone rev : Int) (g : Nat) (W : PW) (hp : HPre W g A c gone xs css) (hn : xs.length ≤ 1000) (hB : ∀ e ∈ xs, BdC e.c) :
    CallsX Tryz.prog 11 ⟨[.pointer (some ⟨g, 0, none⟩), .int .u64 rev]⟩ (g :: (histO A xs.length c css).v.ownBlock.toList) W fun v W' => (∃ cells, v = .tuple ⟨[.agg ⟨cells⟩, .int .i64 (atW xs gone rev)]⟩ ∧ ConfR W' (atS xs gone rev).1 cells) ∧ HPost (histO A xs.length c css) W.w.heap.size W' g A c gone xs css := by
  have hp0 := hp
  obtain ⟨hown, ho, hne, hL⟩ := hp
  obtain ⟨hat, _⟩ := own_at ho
  refine methOX (o := histO A xs.length c css) hmix Tryz.func11 r11 (by kernel_rfl) hown ho hne [.int .u64 rev] rfl ?_
  refine call_m1O (i := 0) rfl rfl rfl rfl rfl rfl k24 (fun g' W1 l1 how hown1 hne1 => (last_x xs css A c gone rev g' W1 ⟨how, hown1, hne1, hL.mono entR.mono l1⟩ hn).mono fun v W2 ⟨hv, hb2, ho2⟩ l2 => ⟨_, _, hb2, ho2, ?_⟩)
  have l12 := l1.trans l2
  have hL2 := hL.mono entR.mono l12
  obtain ⟨p, hpv, rfl⟩ : ∃ p, lastI rev xs 0 (-1) = p ∧ v = .int .i64 p := ⟨_, rfl, hv⟩
  refine ⟨rfl, ?_⟩
  apply br_split
  · intro h1
    have h1 : p < 0 := h1
    refine ret_m1own (i := 0) rfl rfl rfl rfl rfl rfl fun W' l3 h1' h2' => ⟨⟨[.slice none 0 0, .slice none 0 0], ?_, ?_⟩, h1', h2', hL2.mono entR.mono l3⟩
    · rw [atW_no (by omega)]
    · rw [atS_no (by omega)]; exact ConfR.no W'
  · intro h1
    have h1 : ¬ p < 0 := h1
    rcases lastI_in (rev := rev) xs 0 (-1) with h2 | ⟨j, e0, hx, _, hj⟩
    · omega
    obtain rfl : p = j := by rw [← hpv, hj, Nat.zero_add]
    have hjl : j < xs.length := (List.getElem?_eq_some_iff.1 hx).1
    obtain ⟨b, rfl, e, a1, n1, c1, a2, n2, c2, a3, n3, c3, hx', hC, _, _, _, hrd, _⟩ := hist_at (c := c) hL2 hat (j := j) ⟨by omega, by omega⟩
    have hx' : xs[j]? = some e := hx'
    have hbe := hB e (List.mem_of_getElem? hx')
    have hat := atS_yes (gone := gone) hpv hx'
    obtain ⟨ec, hec⟩ : ∃ ec, e.c = ec := ⟨_, rfl⟩
    rw [hec] at hC hbe hat
    have haw := atW_yes (xs := xs) (gone := gone) hpv
    obtain ⟨r1, hr1⟩ : ∃ r : Int, IntKind.i64.wrap (gone + j) = r := ⟨_, rfl⟩
    obtain ⟨r2, hr2⟩ : ∃ r : Int, IntKind.i64.wrap (r1 + 1) = r := ⟨_, rfl⟩
    refine ⟨⟨by omega, by omega⟩, b, rfl, [.slice a1 n1 c1, .slice a2 n2 c2], rfl, hrd _ 0 rfl, rfl, r1, hr1.symm, rfl, r2, hr2.symm, ?_⟩
    refine call_v rfl (fun W' lw => copied_x ec _ W' hbe (ConfR.mono _ _ _ _ lw hC)) (fun W3 v W4 l3 l4 hv => ?_)
    obtain ⟨cells, rfl, hC2⟩ := hv
    obtain ⟨b1, d1, b2, d2, rfl⟩ := hC2.form
    refine ret_m1own (i := 0) rfl rfl rfl rfl rfl rfl fun W' l5 h1' h2' => ⟨⟨[.slice b1 ec.spaces.length d1, .slice b2 ec.scopes.length d2], ?_, ?_⟩, h1', h2', hL2.mono entR.mono (l3.trans (l4.trans l5))⟩
    · rw [haw, hr1, hr2]
    · rw [hat]; exact ConfR.mono _ _ _ _ l5 hC2

def foldA (l : List DoS) : Nat → List EntS × Bool
  | 0 => ([], true)
  | i + 1 => match l[i]? with
    | some d => ((addS (foldA l i).1 d.rev d.c).1, (foldA l i).2 && decide ((addS (foldA l i).1 d.rev d.c).2 = 0))
    | none => foldA l i
theorem foldA_step {l : List DoS} {i : Nat} {d : DoS} (h : l[i]? = some d) : foldA l (i + 1) = ((addS (foldA l i).1 d.rev d.c).1, (foldA l i).2 && decide ((addS (foldA l i).1 d.rev d.c).2 = 0)) := by
  simp only [foldA, h]
theorem addS_zero {xs : List EntS} {rev : Int} {c : ConfS} (h : (addS xs rev c).2 = 0) : (addS xs rev c).1 = xs ++ [⟨rev, c, (numbersS c).1⟩] := by
  unfold addS at h ⊢
  split at h
  · exact absurd (show (12 : Int) = 0 from h) (by decide)
  · rename_i h1
    rw [if_neg h1]
    split at h
    · rename_i h2; exact absurd h h2
    · rename_i h2
      rw [if_neg h2]
      split at h
      · exact absurd (show (8 : Int) = 0 from h) (by decide)
      · rename_i h3
        rw [if_neg h3]
theorem foldA_ok {l : List DoS} (hg : ∀ d ∈ l, goodD d) : ∀ i : Nat, i ≤ l.length → HOK (foldA l i).1 ∧ ((foldA l i).2 = true → (foldA l i).1.length = i)
  | 0, _ => ⟨HOK.nil, fun _ => rfl⟩
  | i + 1, hi => by
    have hx : l[i]? = some l[i] := List.getElem?_eq_getElem hi
    obtain ⟨h1, h2⟩ := foldA_ok hg i (by omega)
    obtain ⟨g1, g2, _⟩ := hg _ (List.getElem_mem hi)
    rw [foldA_step hx]
    refine ⟨addS_ok h1 g2 g1, fun hb => ?_⟩
    dsimp only at hb ⊢
    rw [Bool.and_eq_true, decide_eq_true_eq] at hb
    rw [addS_zero hb.2, List.length_append, h2 hb.1]; rfl
theorem foldA_no {l : List DoS} : ∀ {j i : Nat}, i ≤ j → (foldA l i).2 = false → (foldA l j).2 = false
  | 0, i, h, hf => by obtain rfl : i = 0 := by omega
                      exact hf
  | j + 1, i, h, hf => by
    rcases Nat.lt_or_ge i (j + 1) with h1 | h1
    · have := foldA_no (j := j) (by omega) hf
      cases hx : l[j]? with
      | none => simp only [foldA, hx]; exact this
      | some d => rw [foldA_step hx]; dsimp only; rw [this, Bool.false_and]
    · obtain rfl : i = j + 1 := by omega
      exact hf
theorem dadd_zero (xs : List EntS) (rev : Int) (c : ConfS) : daddS xs 0 rev c = addS xs rev c := by
  unfold daddS addS
  have e : (0 < xs.length ∧ ∃ e, xs[xs.length - 1]? = some e ∧ rev ≤ e.rev) = (∃ e, xs[xs.length - 1]? = some e ∧ rev ≤ e.rev) := propext ⟨fun h => h.2, fun ⟨e, h1, h2⟩ => ⟨by have := (List.getElem?_eq_some_iff.1 h1).1; omega, e, h1, h2⟩⟩
  simp only [e, Nat.sub_zero]

theorem dadd0_x (xs : List EntS) (css : List (List Value)) (A : Option Addr) (c : Nat) (rev : Int) (x : ConfS) (cs : List Value) (g : Nat) (W : PW) (hp : DPre W g A c 0 xs css) (hn : xs.length ≤ 1000) (hok : okCB x) (hB : BdC x) (hC : ConfR W x cs) :
    CallsX Tryz.prog 6 ⟨[.pointer (some ⟨g, 0, none⟩), .int .u64 rev, .agg ⟨cs⟩]⟩ (g :: (dO A xs.length c css).v.ownBlock.toList) W fun v W' => v = .int .i64 (addS xs rev x).2 ∧ ∃ A' c' css', DPost (dO A xs.length c css) W.w.heap.size W' g A' c' 0 (addS xs rev x).1 css' := by
  have h := dadd_x xs css A c 0 rev x cs g W hp hn (Nat.zero_le _) hok hB hC
  rw [dadd_zero] at h
  exact h

def verD (W : PW) (d : DoS) (cs : List Value) : Prop := ∃ a1 n1 c1 a2 n2 c2, cs = [.int .u64 d.rev, .slice a1 n1 c1, .slice a2 n2 c2] ∧ ConfR W d.c [.slice a1 n1 c1, .slice a2 n2 c2]
theorem verD.mono (W W' : PW) (d : DoS) (cs : List Value) (l : W.Le W') (h : verD W d cs) : verD W' d cs := let ⟨a1, n1, c1, a2, n2, c2, e1, h1⟩ := h; ⟨a1, n1, c1, a2, n2, c2, e1, ConfR.mono _ _ _ _ l h1⟩
structure LdSt where
  i : Nat
  n : Nat
  A : Option Addr
  c : Nat
  css : List (List Value)
set_option maxRecDepth 20000 in
set_option maxHeartbeats 16000000 in
theorem load_vc {B : Base} {xv : Value} {o0 : Own} {W : PW} {L : List DoS} {xs : List EntS} (hxs : (foldA L L.length).1 = xs) {A : Option Addr} {c : Nat} {gone : Int} (hv : RL verD 3 W (.slice A L.length c) L) (hn : L.length ≤ 18) (hgd : ∀ d ∈ L, goodD d) {K : GV → GS → Prop}
    (hno : (gone < 0 ∨ (foldA L L.length).2 = false) → ∀ S', W.Le S'.W → K (.tp [.v (.pointer none), .v (.int .i64 4)]) S')
    (hyes : 0 ≤ gone → (foldA L L.length).2 = true → ∀ A' c' css' W', W.Le W' → LR entR 4 W' xs css' → K (.tp [.lp 1 0, .v (.int .i64 0)]) ⟨[(dV xv 0).map .v, (histV (.slice A' xs.length c') gone).map .v], [o0, histO A' xs.length c' css'], W'⟩) :
    CallVC Tryz.prog B 7 [.v (.slice A L.length c), .v (.int .i64 gone)] [] ⟨[(dV xv 0).map .v], [o0, nilO 66 4], W⟩ K := by
  subst hxs
  refine call_inlT hmix Tryz.func7 r7 (by kernel_rfl) rfl (fun g hg => ?_) (fun rc => ?_)
  · simp only [List.mem_cons, List.not_mem_nil, or_false] at hg
    rcases hg with rfl | rfl <;> trivial
  refine call_inlP hmix Tryz.func14 r14 (by kernel_rfl) rfl (fun g hg => absurd (show g ∈ ([] : List GV) from hg) (by simp)) (fun rc => ?_)
  refine ⟨Nat.lt_succ_self 1, rfl, ?_⟩
  apply br_split
  · intro h1
    have h1 : gone < 0 := h1
    exact ⟨_, rfl, fun c hc => by simp only [List.mem_cons, List.not_mem_nil, or_false] at hc; rcases hc with rfl | rfl <;> trivial, hno (.inl h1) _ (PW.Le.refl _)⟩
  intro h1
  have h1 : ¬ gone < 0 := h1
  refine ⟨LdSt, fun t => [(14, .v (.int .i64 t.i))], fun t => [(dV xv 0).map .v, (histV (.slice t.A t.n t.c) 0).map .v], fun t => [o0, histO t.A t.n t.c t.css], fun t W' => t.i ≤ L.length ∧ t.n = (foldA L t.i).1.length ∧ (foldA L t.i).2 = true ∧ LR entR 4 W' (foldA L t.i).1 t.css, fun t => L.length - t.i, ⟨0, 0, none, 0, []⟩,
    all_sl ⟨rfl, trivial⟩, rfl, ole_refl _, ⟨Nat.zero_le _, rfl, rfl, trivial⟩, loopOK (fun _ => ⟨⟨trivial, rfl⟩, trivial⟩) (fun _ => rfl) (fun _ => rfl), ?_⟩
  rintro ⟨i, n, A2, c2, css⟩ W1 l1 ⟨hi, hnx, hb, hH⟩ fr
  dsimp only at hi hnx hb hH
  subst hnx
  obtain ⟨hHk, _⟩ := foldA_ok hgd i hi
  refine ⟨rfl, ?_⟩
  apply br_split
  · intro h2
    have hq : (i : Int) < L.length := h2
    obtain ⟨pc, rfl, d, cs, hx, _, ⟨a1, n1, d1, a2, n2, d2, rfl, hC⟩, _, hrds⟩ := hv.at verD.mono l1 (j := (i : Int)) ⟨by omega, hq⟩
    have hx : L[i]? = some d := hx
    obtain ⟨g1, g2, g3⟩ := hgd d (List.mem_of_getElem? hx)
    have hstep := foldA_step hx
    obtain ⟨dr, hdr⟩ : ∃ k, d.rev = k := ⟨_, rfl⟩
    rw [hdr] at hrds hstep
    obtain ⟨xs, hxs⟩ : ∃ xs, (foldA L i).1 = xs := ⟨_, rfl⟩
    rw [hxs] at hHk hH hstep ⊢
    rw [hb, Bool.true_and] at hstep
    refine ⟨⟨by omega, hq⟩, pc, rfl, [.int .u64 dr, .slice a1 n1 d1, .slice a2 n2 d2], rfl, hrds.o, ?_⟩
    refine call_m1O (o := histO A2 xs.length c2 css) (i := 1) (xs := histV (.slice A2 xs.length c2) 0) rfl rfl rfl rfl rfl rfl k15 (fun g' W6 l6 how hown1 hne1 => (add_x xs css A2 c2 0 dr d.c _ g' W6 ⟨how, hown1, hne1, hH.mono entR.mono l6⟩ (by have := hHk.1; omega) g1 g3 g2 (ConfR.mono _ _ _ _ l6 hC)).mono fun v W7 ⟨hv, A', c', css', hp⟩ l7 => ⟨_, _, hp.own, hp.ho, ?_⟩)
    obtain ⟨R, hR⟩ : ∃ R, addS xs dr d.c = R := ⟨_, rfl⟩
    have hlr := hp.lr
    rw [hR] at hv hlr hstep ⊢
    obtain ⟨ys, code⟩ := R
    dsimp only at hv hlr hstep ⊢
    subst hv
    refine ⟨rfl, ?_⟩
    apply br_nsplit
    · intro h3
      have h3 : ¬ code = 0 := h3
      have hf : (foldA L (i + 1)).2 = false := by rw [hstep]; exact decide_eq_false h3
      exact ⟨_, rfl, fun c hc => by simp only [List.mem_cons, List.not_mem_nil, or_false] at hc; rcases hc with rfl | rfl <;> trivial, hno (.inr (foldA_no (i := i + 1) (by omega) hf)) _ (l1.trans (l6.trans l7))⟩
    · intro h3
      have h3 : code = 0 := h3
      refine ⟨rfl, _, (i64_in ((i : Int) + 1) ⟨by omega, by omega⟩).symm, ⟨i + 1, ys.length, A', c', css'⟩, all_sl ⟨rfl, trivial⟩, rfl, ole_refl _, ⟨by dsimp only; omega, ?_, ?_, ?_⟩, by dsimp only; omega⟩
      · dsimp only; rw [hstep]
      · dsimp only; rw [hstep]; exact decide_eq_true h3
      · dsimp only; rw [hstep]; exact hlr
  · intro h2
    have hq : ¬ (i : Int) < L.length := h2
    obtain rfl : i = L.length := by omega
    refine ⟨_, rfl, fun c hc => ?_, hyes (by omega) hb A2 c2 css W1 l1 hH⟩
    simp only [List.mem_cons, List.not_mem_nil, or_false] at hc
    rcases hc with rfl | rfl
    · exact Nat.lt_succ_self 1
    · trivial
end Go.Proofs.YtcgbcbdgjhnlaaaGreat
