/- Layer 19 (space), walked: histories that no call made; the law's own history. -/
import Derived.Test.YtcgbcbdgjhnlaaaYSpaE
namespace Go.Proofs.Ytcgbcbdgjhnlaaa
open Go.RowKit

theorem lastnil_x (rev : Int) (W : PW) : CallsX Try.prog 124 ⟨[.pointer none, .int .u64 rev]⟩ [] W fun v _ => v = .int .i64 (-1) := by
  refine pureX hmix Try.func124 r124 (by kernel_rfl) [.pointer none, .int .u64 rev] rfl ?_
  refine call_v rfl (fun W' _ => madenil_x W') (fun W1 v W2 _ _ hv => ?_)
  subst hv
  exact ret_plain rfl fun _ _ => rfl
theorem atnil_x (rev : Int) (W : PW) : CallsX Try.prog 72 ⟨[.pointer none, .int .u64 rev]⟩ [] W fun v _ => v = .tuple ⟨[.agg ⟨[.slice none 0 0, .slice none 0 0]⟩, .int .i64 0]⟩ := by
  refine pureX hmix Try.func72 r72 (by kernel_rfl) [.pointer none, .int .u64 rev] rfl ?_
  refine call_v rfl (fun W' _ => lastnil_x rev W') (fun W1 v W2 _ _ hv => ?_)
  subst hv
  refine ⟨rfl, ?_⟩
  exact ret_plain rfl fun _ _ => rfl
theorem colnil_x (rev : Int) (W : PW) : CallsX Try.prog 75 ⟨[.pointer none, .int .u64 rev]⟩ [] W fun v _ => v = .tuple ⟨[]⟩ := by
  refine pureX hmix Try.func75 r75 (by kernel_rfl) [.pointer none, .int .u64 rev] rfl ?_
  refine call_v rfl (fun W' _ => madenil_x W') (fun W1 v W2 _ _ hv => ?_)
  subst hv
  exact ret_plain rfl fun _ _ => rfl
theorem numnil_x (rev : Int) (W : PW) : CallsX Try.prog 78 ⟨[.pointer none, .int .u64 rev]⟩ [] W fun v _ => v = .slice none 0 0 := by
  refine pureX hmix Try.func78 r78 (by kernel_rfl) [.pointer none, .int .u64 rev] rfl ?_
  refine call_v rfl (fun W' _ => lastnil_x rev W') (fun W1 v W2 _ _ hv => ?_)
  subst hv
  refine ⟨rfl, ?_⟩
  exact ret_plain rfl fun _ _ => rfl
theorem listnil_x (W : PW) : CallsX Try.prog 73 ⟨[.pointer none]⟩ [] W fun v _ => v = .slice none 0 0 := by
  refine pureX hmix Try.func73 r73 (by kernel_rfl) [.pointer none] rfl ?_
  refine call_v rfl (fun W' _ => madenil_x W') (fun W1 v W2 _ _ hv => ?_)
  subst hv
  exact ret_plain rfl fun _ _ => rfl
theorem gonenil_x (W : PW) : CallsX Try.prog 79 ⟨[.pointer none]⟩ [] W fun v _ => v = .int .i64 0 := by
  refine pureX hmix Try.func79 r79 (by kernel_rfl) [.pointer none] rfl ?_
  refine call_v rfl (fun W' _ => madenil_x W') (fun W1 v W2 _ _ hv => ?_)
  subst hv
  exact ret_plain rfl fun _ _ => rfl
theorem addnil_x (rev : Int) (A0 : Option Addr) (n0 c0 : Nat) (A1 : Option Addr) (n1 c1 : Nat) (W : PW) : CallsX Try.prog 71 ⟨[.pointer none, .int .u64 rev, .agg ⟨[.slice A0 n0 c0, .slice A1 n1 c1]⟩]⟩ [] W fun v _ => v = .int .i64 1 := by
  refine pureX hmix Try.func71 r71 (by kernel_rfl) [.pointer none, .int .u64 rev, .agg ⟨[.slice A0 n0 c0, .slice A1 n1 c1]⟩] rfl ?_
  refine call_v rfl (fun W' _ => madenil_x W') (fun W1 v W2 _ _ hv => ?_)
  subst hv
  exact ret_plain rfl fun _ _ => rfl

def zeroV : List Value := [.bool false, .slice none 0 0, .int .i64 0]
theorem lastz_x (rev : Int) (g : Nat) (W : PW) (h : OwnB W g zeroV) : CallsX Try.prog 124 ⟨[.pointer (some ⟨g, 0, none⟩), .int .u64 rev]⟩ [g] W fun v W' => v = .int .i64 (-1) ∧ OwnB W' g zeroV := by
  refine methX hmix Try.func124 r124 (by kernel_rfl) h [.int .u64 rev] rfl ?_
  refine call_made rfl rfl rfl (fun W1 _ => ?_)
  exact ret_m1 rfl rfl rfl rfl fun _ _ h => ⟨rfl, h⟩
theorem atz_x (rev : Int) (g : Nat) (W : PW) (h : OwnB W g zeroV) : CallsX Try.prog 72 ⟨[.pointer (some ⟨g, 0, none⟩), .int .u64 rev]⟩ [g] W fun v W' => v = .tuple ⟨[.agg ⟨[.slice none 0 0, .slice none 0 0]⟩, .int .i64 0]⟩ ∧ OwnB W' g zeroV := by
  refine methX hmix Try.func72 r72 (by kernel_rfl) h [.int .u64 rev] rfl ?_
  refine call_m1 rfl rfl rfl rfl k124 (fun g' W1 _ how => (lastz_x rev g' W1 how).mono fun v W2 ⟨hv, ho2⟩ _ => ⟨_, ho2, ?_⟩)
  subst hv
  refine ⟨rfl, ?_⟩
  exact ret_m1 rfl rfl rfl rfl fun _ _ h => ⟨rfl, h⟩
theorem colz_x (rev : Int) (g : Nat) (W : PW) (h : OwnB W g zeroV) : CallsX Try.prog 75 ⟨[.pointer (some ⟨g, 0, none⟩), .int .u64 rev]⟩ [g] W fun v W' => v = .tuple ⟨[]⟩ ∧ OwnB W' g zeroV := by
  refine methX hmix Try.func75 r75 (by kernel_rfl) h [.int .u64 rev] rfl ?_
  refine call_made rfl rfl rfl (fun W1 _ => ?_)
  exact ret_m1 rfl rfl rfl rfl fun _ _ h => ⟨rfl, h⟩
theorem numz_x (rev : Int) (g : Nat) (W : PW) (h : OwnB W g zeroV) : CallsX Try.prog 78 ⟨[.pointer (some ⟨g, 0, none⟩), .int .u64 rev]⟩ [g] W fun v W' => v = .slice none 0 0 ∧ OwnB W' g zeroV := by
  refine methX hmix Try.func78 r78 (by kernel_rfl) h [.int .u64 rev] rfl ?_
  refine call_m1 rfl rfl rfl rfl k124 (fun g' W1 _ how => (lastz_x rev g' W1 how).mono fun v W2 ⟨hv, ho2⟩ _ => ⟨_, ho2, ?_⟩)
  subst hv
  refine ⟨rfl, ?_⟩
  exact ret_m1 rfl rfl rfl rfl fun _ _ h => ⟨rfl, h⟩
theorem listz_x (g : Nat) (W : PW) (h : OwnB W g zeroV) : CallsX Try.prog 73 ⟨[.pointer (some ⟨g, 0, none⟩)]⟩ [g] W fun v W' => v = .slice none 0 0 ∧ OwnB W' g zeroV := by
  refine methX hmix Try.func73 r73 (by kernel_rfl) h [] rfl ?_
  refine call_made rfl rfl rfl (fun W1 _ => ?_)
  exact ret_m1 rfl rfl rfl rfl fun _ _ h => ⟨rfl, h⟩
theorem gonez_x (g : Nat) (W : PW) (h : OwnB W g zeroV) : CallsX Try.prog 79 ⟨[.pointer (some ⟨g, 0, none⟩)]⟩ [g] W fun v W' => v = .int .i64 0 ∧ OwnB W' g zeroV := by
  refine methX hmix Try.func79 r79 (by kernel_rfl) h [] rfl ?_
  refine call_made rfl rfl rfl (fun W1 _ => ?_)
  exact ret_m1 rfl rfl rfl rfl fun _ _ h => ⟨rfl, h⟩
theorem addz_x (rev : Int) (A0 : Option Addr) (n0 c0 : Nat) (A1 : Option Addr) (n1 c1 : Nat) (g : Nat) (W : PW) (h : OwnB W g zeroV) : CallsX Try.prog 71 ⟨[.pointer (some ⟨g, 0, none⟩), .int .u64 rev, .agg ⟨[.slice A0 n0 c0, .slice A1 n1 c1]⟩]⟩ [g] W fun v W' => v = .int .i64 1 ∧ OwnB W' g zeroV := by
  refine methX hmix Try.func71 r71 (by kernel_rfl) h [.int .u64 rev, .agg ⟨[.slice A0 n0 c0, .slice A1 n1 c1]⟩] rfl ?_
  refine call_made rfl rfl rfl (fun W1 _ => ?_)
  exact ret_m1 rfl rfl rfl rfl fun _ _ h => ⟨rfl, h⟩

theorem no_ok : okCB noConf := ⟨by decide, by decide, fun s h => (by cases h), fun s h => (by cases h)⟩
def oneC : ConfS := (ruleP oneT).1
def bdB (c : ConfS) : Bool := Nat.ble c.spaces.length 1000 && Nat.ble c.scopes.length 1000 && c.spaces.all fun s => Nat.ble s.rels.length 1000 && s.rels.all fun r => Nat.ble r.types.length 1000 && Nat.ble r.nodes.length 1000
theorem bd_of {c : ConfS} (h : bdB c = true) : BdC c := by
  unfold bdB at h
  simp only [Bool.and_eq_true, Nat.ble_eq, List.all_eq_true] at h
  exact ⟨h.1.1, h.1.2, fun s hs => ⟨(h.2 s hs).1, fun r hr => (h.2 s hs).2 r hr⟩⟩
set_option maxRecDepth 20000 in
theorem one_num : (smB oneC && bdB oneC && decide ((numbersS oneC).2 = 0) && decide (oneC.spaces.length = 1)) = true := by decide +kernel
theorem one_ok : okCB oneC := (ruleP_good oneT).b
theorem one_sm : smB oneC = true := by have := one_num; simp only [Bool.and_eq_true] at this; exact this.1.1.1
theorem one_bd : BdC oneC := bd_of (by have := one_num; simp only [Bool.and_eq_true] at this; exact this.1.1.2)
theorem one_z : (numbersS oneC).2 = 0 := by have := one_num; simp only [Bool.and_eq_true, decide_eq_true_eq] at this; exact this.1.2
theorem one_len : oneC.spaces.length = 1 := by have := one_num; simp only [Bool.and_eq_true, decide_eq_true_eq] at this; exact this.2
theorem one_add : addS [] 3 oneC = ([⟨3, oneC, (numbersS oneC).1⟩], 0) := by
  unfold addS
  rw [if_neg (fun ⟨e, h, _⟩ => by simp at h), if_neg (fun h => h one_z), if_neg (by decide)]
  rfl

set_option maxHeartbeats 4000000 in
theorem splives_x (W : PW) : CallsX Try.prog 74 ⟨[]⟩ [] W fun v _ => v = .bool true := by
  refine pureNX hmix Try.func74 r74 (by kernel_rfl) [nilO 196 4] rfl [] rfl ?_
  refine call_inlP hmix Try.func69 r69 (by kernel_rfl) rfl (fun g hg => absurd (show g ∈ ([] : List GV) from hg) (by simp)) (fun rc => ?_)
  refine ⟨Nat.zero_lt_one, ?_⟩
  refine call_v rfl (fun W' _ => one_x W') (fun W1 v W2 l1 l2 hv => ?_)
  obtain ⟨cells, rfl, hC⟩ := hv
  obtain ⟨a1, c1, a2, c2, rfl⟩ := hC.form
  obtain ⟨n1, hn1⟩ : ∃ n, (ruleP oneT).1.spaces.length = n := ⟨_, rfl⟩
  obtain ⟨n2, hn2⟩ : ∃ n, (ruleP oneT).1.scopes.length = n := ⟨_, rfl⟩
  rw [hn1, hn2] at hC ⊢
  refine call_m1O (o := histO none 0 0 []) (i := 0) (xs := histV (.slice none 0 0) 0) rfl rfl rfl rfl rfl rfl k71 (fun g' W3 l3 how hown1 hne1 => (add_x [] [] none 0 0 3 oneC _ g' W3 ⟨how, hown1, hne1, trivial⟩ (by decide) one_ok (fun _ => smC_of one_ok one_sm) one_bd (ConfR.mono _ _ _ _ l3 hC)).mono fun v W4 ⟨hv, A', c', css', hp⟩ l4 => ⟨_, _, hp.own, hp.ho, ?_⟩)
  have hL := hp.lr
  rw [one_add] at hv hL ⊢
  obtain ⟨num, hnum⟩ : ∃ y, (numbersS oneC).1 = y := ⟨_, rfl⟩
  rw [hnum] at hL ⊢
  have hL : LR entR 4 W4 [⟨3, oneC, num⟩] css' := hL
  subst hv
  refine ⟨rfl, ?_⟩
  refine call_m1O (o := histO A' 1 c' css') (i := 0) (xs := histV (.slice A' 1 c') 0) rfl rfl rfl rfl rfl rfl k72 (fun g' W5 l5 how hown1 hne1 => (at_x [⟨3, oneC, num⟩] css' A' c' 0 3 g' W5 ⟨how, hown1, hne1, hL.mono entR.mono l5⟩ (by show 1 ≤ 1000; decide) (by decide) (fun e he => by rw [List.mem_singleton.1 he]; exact one_bd)).mono fun v W6 ⟨⟨cells, hv, hC2⟩, hp⟩ l6 => ⟨_, _, hp.own, hp.ho, ?_⟩)
  rw [show atS [⟨3, oneC, num⟩] 0 3 = (oneC, 1) from rfl] at hv hC2
  obtain ⟨b1, d1, b2, d2, rfl⟩ := hC2.form
  subst hv
  rw [one_len]
  obtain ⟨m2, hm2⟩ : ∃ n, oneC.scopes.length = n := ⟨_, rfl⟩
  rw [hm2]
  refine ⟨_, rfl, _, rfl, rfl, rfl, ?_⟩
  exact ret_plain rfl fun _ _ => rfl

set_option maxHeartbeats 8000000 in
theorem nobody_x (rev : Int) (W : PW) : CallsX Try.prog 20 ⟨[.int .u64 rev]⟩ [] W fun v _ => v = .bool true := by
  refine pureX hmix Try.func20 r20 (by kernel_rfl) [.int .u64 rev] rfl ?_
  refine ⟨Nat, fun k => [(3, .v (.int .i64 k))], fun _ => [], fun _ => [], fun k _ => k ≤ 2, fun k => 2 - k, 0,
    all_sl ⟨rfl, trivial⟩, rfl, ole_refl _, Nat.zero_le _, loopOK (fun _ => ⟨⟨trivial, rfl⟩, trivial⟩) (fun _ => rfl) (fun _ => rfl), ?_⟩
  intro k W1 l1 hk fr
  refine ⟨rfl, ?_⟩
  apply br_split
  · intro h1
    have h1 : (k : Int) < 2 := h1
    refine ⟨rfl, ?_⟩
    apply br_split
    · intro h2
      have h2 : (k : Int) = 1 := h2
      refine call_m1 (k := 0) (xs := zeroV) rfl rfl rfl rfl k75 (fun g' W2 _ how => (colz_x rev g' W2 how).mono fun v W3 ⟨hv, ho2⟩ _ => ⟨_, ho2, ?_⟩)
      refine call_m1 (k := 0) (xs := zeroV) rfl rfl rfl rfl k72 (fun g' W2 _ how => (atz_x rev g' W2 how).mono fun v W3 ⟨hv, ho2⟩ _ => ⟨_, ho2, ?_⟩)
      subst hv
      refine ⟨_, rfl, _, rfl, ?_⟩
      refine call_made rfl rfl rfl (fun W4 _ => ?_)
      refine call_v rfl (fun W' _ => one_x W') (fun W5 v W6 l5 l6 hv => ?_)
      obtain ⟨cells, rfl, hC⟩ := hv
      obtain ⟨a1, c1, a2, c2, rfl⟩ := hC.form
      obtain ⟨n1, hn1⟩ : ∃ n, (ruleP oneT).1.spaces.length = n := ⟨_, rfl⟩
      obtain ⟨n2, hn2⟩ : ∃ n, (ruleP oneT).1.scopes.length = n := ⟨_, rfl⟩
      rw [hn1, hn2]
      refine call_m1 (k := 0) (xs := zeroV) rfl rfl rfl rfl k71 (fun g' W2 _ how => (addz_x rev _ _ _ _ _ _ g' W2 how).mono fun v W3 ⟨hv, ho2⟩ _ => ⟨_, ho2, ?_⟩)
      subst hv
      refine ⟨rfl, rfl, ?_⟩
      refine call_v rfl (fun W' _ => same_x noConf no_ok _ _ W' (ConfR.no W') (ConfR.no W')) (fun W7 v W8 l7 l8 hv => ?_)
      subst hv
      refine call_m1 (k := 0) (xs := zeroV) rfl rfl rfl rfl k78 (fun g' W2 _ how => (numz_x rev g' W2 how).mono fun v W3 ⟨hv, ho2⟩ _ => ⟨_, ho2, ?_⟩)
      subst hv
      refine call_m1 (k := 0) (xs := zeroV) rfl rfl rfl rfl k73 (fun g' W2 _ how => (listz_x g' W2 how).mono fun v W3 ⟨hv, ho2⟩ _ => ⟨_, ho2, ?_⟩)
      subst hv
      refine ⟨rfl, 0, rfl, ?_⟩
      refine call_m1 (k := 0) (xs := zeroV) rfl rfl rfl rfl k79 (fun g' W2 _ how => (gonez_x g' W2 how).mono fun v W3 ⟨hv, ho2⟩ _ => ⟨_, ho2, ?_⟩)
      subst hv
      refine ⟨rfl, 0, rfl, rfl, ?_⟩
      exact ⟨rfl, _, (i64_in ((k : Int) + 1) ⟨by omega, by omega⟩).symm, k + 1, all_sl ⟨rfl, trivial⟩, rfl, ole_refl _, by dsimp only; omega, by dsimp only; omega⟩
    · intro h2
      refine call_v rfl (fun W' _ => colnil_x rev W') (fun W2 v W3 _ _ hv => ?_)
      refine call_v rfl (fun W' _ => atnil_x rev W') (fun W2 v W3 _ _ hv => ?_)
      subst hv
      refine ⟨_, rfl, _, rfl, ?_⟩
      refine call_v rfl (fun W' _ => madenil_x W') (fun W2 v W3 _ _ hv => ?_)
      subst hv
      refine call_v rfl (fun W' _ => one_x W') (fun W5 v W6 l5 l6 hv => ?_)
      obtain ⟨cells, rfl, hC⟩ := hv
      obtain ⟨a1, c1, a2, c2, rfl⟩ := hC.form
      obtain ⟨n1, hn1⟩ : ∃ n, (ruleP oneT).1.spaces.length = n := ⟨_, rfl⟩
      obtain ⟨n2, hn2⟩ : ∃ n, (ruleP oneT).1.scopes.length = n := ⟨_, rfl⟩
      rw [hn1, hn2]
      refine call_v rfl (fun W' _ => addnil_x rev _ _ _ _ _ _ W') (fun W2 v W3 _ _ hv => ?_)
      subst hv
      refine ⟨rfl, rfl, ?_⟩
      refine call_v rfl (fun W' _ => same_x noConf no_ok _ _ W' (ConfR.no W') (ConfR.no W')) (fun W7 v W8 l7 l8 hv => ?_)
      subst hv
      refine call_v rfl (fun W' _ => numnil_x rev W') (fun W2 v W3 _ _ hv => ?_)
      subst hv
      refine call_v rfl (fun W' _ => listnil_x W') (fun W2 v W3 _ _ hv => ?_)
      subst hv
      refine ⟨rfl, 0, rfl, ?_⟩
      refine call_v rfl (fun W' _ => gonenil_x W') (fun W2 v W3 _ _ hv => ?_)
      subst hv
      refine ⟨rfl, 0, rfl, rfl, ?_⟩
      exact ⟨rfl, _, (i64_in ((k : Int) + 1) ⟨by omega, by omega⟩).symm, k + 1, all_sl ⟨rfl, trivial⟩, rfl, ole_refl _, by dsimp only; omega, by dsimp only; omega⟩
  · intro h1
    refine call_v rfl (fun W' _ => splives_x W') (fun W2 v W3 _ _ hv => ?_)
    subst hv
    exact ret_plain rfl fun _ _ => rfl
end Go.Proofs.Ytcgbcbdgjhnlaaa

