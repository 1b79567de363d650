/- Layer 35 (reply): the law ReplyTold, walked, where json.Print is told of the errors' values. -/
import Derived.Test.YtkhgmmejgikgnaaDoorRepJ
namespace Go.Proofs.YtkhgmmejgikgnaaDoor
open Go.RowKit

theorem told_400 {e : Int} (h : ¬ e = 0) : 400 ≤ (toldS e).1 ∧ (toldS e).2 ≠ [] := by
  revert h
  refine cases26 (P := fun e => ¬ e = 0 → 400 ≤ (toldS e).1 ∧ (toldS e).2 ≠ []) (fun n hn => ?_) (fun h _ => by rw [told_out h]; decide)
  have : ∀ n : Nat, n < 26 → n ≠ 0 → 400 ≤ (toldS n).1 ∧ (toldS n).2 ≠ [] := by decide
  exact fun h => this n hn (by omega)
theorem failH_len (st : Int) (l : List PairS) : (failH st l).length ≤ l.length + 2 := by
  unfold failH
  rw [List.length_append]
  split
  · show 2 + l.length ≤ _; omega
  · show 1 + l.length ≤ _; omega
set_option maxHeartbeats 4000000 in
theorem rtold_x (hP : ∀ e : Int, PrintOK (toldS e).2) (e : Int) (l0 : List PairS) (u : Value) (W : PW) (hT : HT W) (hr : RP pairC W u l0) : CallsX Tryd.prog 10 ⟨[.int .i64 e, u]⟩ [] W fun v _ => v = .bool true := by
  obtain ⟨a0, c0, rfl, _, _⟩ := hr.form
  refine pureX hmix Tryd.func10 r10 (by kernel_rfl) [.int .i64 e, .slice a0 l0.length c0] rfl ?_
  refine call_v rfl (fun W' lw => fewp_x l0 4 20 (by decide) _ W' (hr.mono lw)) (fun W2 v W3 l2 l3 hv => ?_)
  have hl := few_lit (n := 4) (k := 20) (l := l0) (by decide) (by decide)
  have hff := few_few (n := 4) (k := 20) (l := l0)
  obtain ⟨l, hle⟩ : ∃ l, fewL 4 20 l0 = l := ⟨_, rfl⟩
  rw [hle] at hv hl hff
  have hl1 := hl.1
  obtain ⟨a1, c1, rfl, _, _⟩ := hv.form
  have h400 := told_400 (e := e)
  refine call_v rfl (fun W' _ => told_x e W') (fun W4 v W5 l4 l5 hw => ?_)
  obtain ⟨st, nm, hts, rfl⟩ : ∃ st nm, toldS e = (st, nm) ∧ v = .tuple ⟨[.int .i64 st, strV nm]⟩ := ⟨_, _, rfl, hw⟩
  refine ⟨_, rfl, _, rfl, ?_⟩
  refine call_v rfl (fun W' _ => reftold_x e W') (fun W6 v W7 l6 l7 hw => ?_)
  rw [hts] at hw h400
  subst hw
  have lA := l4.trans (l5.trans (l6.trans l7))
  have lB := l2.trans (l3.trans lA)
  refine ⟨_, rfl, _, rfl, rfl, ?_⟩
  apply br_nsplit
  · intro hn; exact absurd rfl hn
  intro _
  apply br_nsplit
  · intro hn; exact absurd rfl hn
  intro _
  refine ⟨rfl, ?_⟩
  apply br_nsplit
  case' h1 => intro h0
  case' h2 => intro h0
  case' h1 =>
    have h0 : ¬ e = 0 := h0
    obtain ⟨k1, k2⟩ := h400 h0
    dsimp only at k1 k2
    refine ⟨rfl, ?_⟩
    apply br_no (p := st < 400) (by omega)
    apply br_no (p := nm = []) k2
  all_goals
    refine call_v rfl (fun W' lw => fewp_x l 4 20 (by decide) _ W' (hv.mono (lA.trans lw))) (fun W8 v W9 l8 l9 hw => ?_)
    rw [hff] at hw
    obtain ⟨a2, c2, rfl, _, _⟩ := hw.form
    refine call_v rfl (fun W' lw => fail_x e (hP e) l (by omega) _ W' (hw.mono lw)) (fun W10 v W11 l10 l11 hx => ?_)
    obtain ⟨w1, rfl, hw1⟩ := hx
    rw [hts] at hw1 ⊢
    obtain ⟨b, hb⟩ : ∃ b, bodyE (st, nm).2 = b := ⟨_, rfl⟩
    rw [hb]
    have hfl := failH_len st l
    obtain ⟨fl, hfle⟩ : ∃ fl, failH st l = fl := ⟨_, rfl⟩
    have hw1 : RP pairC W11 w1 (failH st l) := hw1
    rw [hfle] at hw1 hfl
    obtain ⟨a3, c3, rfl, _, _⟩ := hw1.form
    refine call_v rfl (fun W' lw => plainr_x st (.slice a3 fl.length c3) ⟨_, _, _, rfl⟩ b W') (fun W12 v W13 l12 l13 hz => ?_)
    subst hz
    refine call_v rfl (fun W' lw => reffail_x e l (by omega) _ W' (hv.mono (lA.trans (l8.trans (l9.trans (l10.trans (l11.trans (l12.trans (l13.trans lw))))))))) (fun W14 v W15 l14 l15 hx => ?_)
    obtain ⟨w2, rfl, hw2⟩ := hx
    rw [hts] at hw2 ⊢
    rw [hb]
    have hw2 : RP pairC W15 w2 (failH st l) := hw2
    rw [hfle] at hw2
    obtain ⟨a4, c4, rfl, _, _⟩ := hw2.form
    refine call_v rfl (fun W' lw => samer_x st fl (by omega) _ _ b W' (hw1.mono (l12.trans (l13.trans (l14.trans (l15.trans lw))))) (hw2.mono lw)) (fun W16 v W17 l16 l17 hz => ?_)
    subst hz
    have lC := l10.trans (l11.trans (l12.trans (l13.trans (l14.trans (l15.trans (l16.trans l17))))))
    refine call_v rfl (fun W' lw => samep_x l (by omega) _ _ W' (hw.mono (lC.trans lw)) (hv.mono (lA.trans (l8.trans (l9.trans (lC.trans lw)))))) (fun W18 v W19 l18 l19 hz => ?_)
    subst hz
    refine call_v rfl (fun W' lw => rlives_x W' (hT.mono (lB.trans (l8.trans (l9.trans (lC.trans (l18.trans (l19.trans lw)))))))) (fun W20 v W21 _ _ hz => ?_)
    subst hz
    exact ret_plain rfl fun _ _ => rfl
end Go.Proofs.YtkhgmmejgikgnaaDoor
