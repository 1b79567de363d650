/- Layer 35 (reply): the program's JSON and Fail, walked, where json.Print is told of an error's value; the law ReplyTold then. -/
import Derived.Test.YtkhgmmejgikgnaaDoorRepI
namespace Go.Proofs.YtkhgmmejgikgnaaDoor
open Go.RowKit

/-- What is to be shown of json.Print: the text of an error's value. -/
def jerrL (nm : List UInt8) : List Value := [.int .i64 3, .bool false, .int .i64 0, strV nm, .slice none 0 0, .slice none 0 0]
def errK : List UInt8 := [101, 114, 114, 111, 114]
def jerr (g1 g2 : Nat) : List Value := [.int .i64 5, .bool false, .int .i64 0, strV [], .slice (some ⟨g2, 0, none⟩) 1 1, .slice (some ⟨g1, 0, none⟩) 1 1]
def PrintOK (nm : List UInt8) : Prop := ∀ (g1 g2 : Nat) (W : PW), Rds W ⟨g1, 0, none⟩ [strV errK] → Rds W ⟨g2, 0, none⟩ (jerrL nm) → CallsX Tryd.prog 50 ⟨[.agg ⟨jerr g1 g2⟩]⟩ [] W fun v _ => v = .tuple ⟨[strV (bodyE nm), .int .i64 0]⟩
def ctO (g : Nat) : Own := ⟨.slice (some ⟨g, 0, none⟩) 1 1, 71, 2, 1, pairC ctP⟩
set_option maxHeartbeats 4000000 in
theorem json_x (st : Int) (nm : List UInt8) (hP : PrintOK nm) (g1 g2 : Nat) (W : PW) (h1 : Rds W ⟨g1, 0, none⟩ [strV errK]) (h2 : Rds W ⟨g2, 0, none⟩ (jerrL nm)) :
    CallsX Tryd.prog 76 ⟨[.int .i64 st, .agg ⟨jerr g1 g2⟩]⟩ [] W fun v W' => ∃ g, v = .agg ⟨respC st (.slice (some ⟨g, 0, none⟩) 1 1) (bodyE nm)⟩ ∧ OwnS [] W.w.heap.size W' (ctO g) := by
  refine pureX hmix Tryd.func76 r76 (by kernel_rfl) [.int .i64 st, .agg ⟨jerr g1 g2⟩] rfl ?_
  refine call_v rfl (fun W' lw => hP g1 g2 W' (h1.mono lw) (h2.mono lw)) (fun W2 v W3 l2 l3 hv => ?_)
  obtain ⟨b, hb, rfl⟩ : ∃ b, bodyE nm = b ∧ v = .tuple ⟨[strV b, .int .i64 0]⟩ := ⟨_, rfl, hv⟩
  rw [hb]
  refine ⟨_, rfl, _, rfl, rfl, rfl, .inr fun g => ?_⟩
  exact ret_own rfl rfl (i := 0) rfl fun W' lw ho => ⟨g, rfl, ho⟩
set_option maxHeartbeats 4000000 in
theorem fail_x (e : Int) (hP : PrintOK (toldS e).2) (more : List PairS) (hm : more.length ≤ 1000) : FailC 39 e more := by
  intro u W h
  obtain ⟨a1, c1, rfl, _, _⟩ := h.form
  have hmax : (100000000 : Nat) ≤ maxLen := by decide
  refine pureX hmix Tryd.func39 r39 (by kernel_rfl) [.int .i64 e, .slice a1 more.length c1] rfl ?_
  refine call_v rfl (fun W' _ => told_x e W') (fun W2 v W3 l2 l3 hv => ?_)
  obtain ⟨st, nm, hts, rfl⟩ : ∃ st nm, toldS e = (st, nm) ∧ v = .tuple ⟨[.int .i64 st, strV nm]⟩ := ⟨_, _, rfl, hv⟩
  rw [hts] at hP ⊢
  dsimp only at hP
  refine ⟨_, rfl, _, rfl, rfl, .inl fun g1 W4 l4 h4 => ⟨rfl, .inl fun g2 W5 l5 h5 => ?_⟩⟩
  refine call_ownR rfl (fun W6 l6 => (json_x st nm hP g1 g2 W6 (h4.mono (l5.trans l6)) (h5.mono l6)).after fun v W7 l7 hv l8 => ?_)
  obtain ⟨g, rfl, ho⟩ := hv
  obtain ⟨b, hb⟩ : ∃ b, bodyE nm = b := ⟨_, rfl⟩
  rw [hb]
  refine ⟨_, ho, ?_⟩
  have lA := l2.trans (l3.trans (l4.trans (l5.trans (l6.trans l7))))
  refine ⟨rfl, ?_⟩
  apply br_split
  · intro h401
    have h401 : st = 401 := h401
    refine ⟨rfl, .inl fun g3 W8 l8' h8 => ⟨0, _, pairC waP, rfl, rfl, rfl, rfl, rfl, pairC_one _, fun _ => ⟨_, rfl, h8.o⟩, by show 1 + 1 ≤ maxLen; omega, by show (1 + 1) * 32 ≤ _; decide, rfl, @fun A0 d0 _ => ?_⟩⟩
    have lA := lA.trans l8'
    have hst2 : failH st more = [ctP, waP] ++ more := by unfold failH; rw [if_pos h401]
    refine ⟨rfl, .inl fun g4 W10 l10 h10 => ?_⟩
    refine CallVC.freeze (fun _ hb => hb) rfl (i := 0) rfl k71 fun W11 l11 hs => ?_
    refine call_v rfl (fun W' lw => concat_x _ [[ctP, waP], more] rfl (by show 2 ≤ 10; decide) (by show 0 < ([ctP, waP] ++ (more ++ [])).length; rw [List.length_append]; show 0 < 2 + _; omega) (by show ([ctP, waP] ++ (more ++ [])).length ≤ _; rw [List.length_append, List.append_nil]; show 2 + more.length ≤ _; omega) _ W' ⟨_, _, rfl, Nat.le_refl _, by show 2 ≤ maxLen; decide, fun _ => ⟨_, rfl, h10.mono (l11.trans lw)⟩⟩ (two_args (hs.mono lw) (h.mono (lA.trans (l10.trans (l11.trans lw)))))) (fun W12 v W13 l12 l13 hv => ?_)
    obtain ⟨a3, c3, rfl, _, _⟩ := hv.form
    refine ret_plain rfl fun W' lw => ⟨_, rfl, ?_⟩
    show RP pairC W' _ (failH st more)
    rw [hst2]
    have e3 : [[ctP, waP], more].flatten = [ctP, waP] ++ more := by simp
    rw [← e3]
    exact hv.mono lw
  · intro h401
    have h401 : ¬ st = 401 := h401
    have hst2 : failH st more = [ctP] ++ more := by unfold failH; rw [if_neg h401]
    refine ⟨rfl, .inl fun g4 W10 l10 h10 => ?_⟩
    refine CallVC.freeze (fun _ hb => hb) rfl (i := 0) rfl k71 fun W11 l11 hs => ?_
    refine call_v rfl (fun W' lw => concat_x _ [[ctP], more] rfl (by show 2 ≤ 10; decide) (by show 0 < ([ctP] ++ (more ++ [])).length; rw [List.length_append]; show 0 < 1 + _; omega) (by show ([ctP] ++ (more ++ [])).length ≤ _; rw [List.length_append, List.append_nil]; show 1 + more.length ≤ _; omega) _ W' ⟨_, _, rfl, Nat.le_refl _, by show 2 ≤ maxLen; decide, fun _ => ⟨_, rfl, h10.mono (l11.trans lw)⟩⟩ (two_args (hs.mono lw) (h.mono (lA.trans (l10.trans (l11.trans lw)))))) (fun W12 v W13 l12 l13 hv => ?_)
    obtain ⟨a3, c3, rfl, _, _⟩ := hv.form
    refine ret_plain rfl fun W' lw => ⟨_, rfl, ?_⟩
    show RP pairC W' _ (failH st more)
    rw [hst2]
    have e3 : [[ctP], more].flatten = [ctP] ++ more := by simp
    rw [← e3]
    exact hv.mono lw
end Go.Proofs.YtkhgmmejgikgnaaDoor
