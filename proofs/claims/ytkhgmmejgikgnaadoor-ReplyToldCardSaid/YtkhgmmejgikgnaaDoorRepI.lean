/- Layer 35 (reply): the document's Fail, walked. -/
import Derived.Test.YtkhgmmejgikgnaaDoorRepH
namespace Go.Proofs.YtkhgmmejgikgnaaDoor
open Go.RowKit

def ctP : PairS := ⟨[99, 111, 110, 116, 101, 110, 116, 45, 116, 121, 112, 101], [97, 112, 112, 108, 105, 99, 97, 116, 105, 111, 110, 47, 106, 115, 111, 110]⟩
def waP : PairS := ⟨[119, 119, 119, 45, 97, 117, 116, 104, 101, 110, 116, 105, 99, 97, 116, 101], [66, 97, 115, 105, 99]⟩
def bodyE (nm : List UInt8) : List UInt8 := [123, 34, 101, 114, 114, 111, 114, 34, 58, 34] ++ nm ++ [34, 125]
def failH (st : Int) (more : List PairS) : List PairS := (if st = 401 then [ctP, waP] else [ctP]) ++ more
theorem told_len (e : Int) : (toldS e).2.length ≤ 30 := by
  refine cases26 (P := fun e => (toldS e).2.length ≤ 30) (fun n hn => ?_) (fun h => by rw [told_out h]; decide)
  have : ∀ n : Nat, n < 26 → (toldS n).2.length ≤ 30 := by decide
  exact this n hn
def FailC (fid : FuncId) (e : Int) (more : List PairS) : Prop := ∀ (u : Value) (W : PW), RP pairC W u more → CallsX Tryd.prog fid ⟨[.int .i64 e, u]⟩ [] W fun v W' => ∃ w, v = .agg ⟨respC (toldS e).1 w (bodyE (toldS e).2)⟩ ∧ RP pairC W' w (failH (toldS e).1 more)
set_option maxHeartbeats 4000000 in
theorem reffail_x (e : Int) (more : List PairS) (hm : more.length ≤ 1000) : FailC 40 e more := by
  intro u W h
  obtain ⟨a1, c1, rfl, _, _⟩ := h.form
  have hmax : (100000000 : Nat) ≤ maxLen := by decide
  refine pureX hmix Tryd.func40 r40 (by kernel_rfl) [.int .i64 e, .slice a1 more.length c1] rfl ?_
  refine call_v rfl (fun W' _ => reftold_x e W') (fun W2 v W3 l2 l3 hv => ?_)
  have hnl := told_len e
  obtain ⟨st, nm, hts, rfl⟩ : ∃ st nm, toldS e = (st, nm) ∧ v = .tuple ⟨[.int .i64 st, strV nm]⟩ := ⟨_, _, rfl, hv⟩
  rw [hts] at hnl ⊢
  dsimp only at hnl
  refine ⟨_, rfl, _, rfl, rfl, .inr fun g => ⟨cat_q 100000 (by show 10 + nm.length ≤ _; omega) (by decide), cat_q 100000 (by show nm.length + 10 + 2 ≤ _; omega) (by decide), rfl, ?_⟩⟩
  apply br_split
  · intro h401
    have h401 : st = 401 := h401
    refine ⟨rfl, .inl fun g1 W4 l4 hg => ⟨0, _, pairC waP, rfl, rfl, rfl, rfl, rfl, pairC_one _, fun _ => ⟨_, rfl, hg.o⟩, by show 1 + 1 ≤ maxLen; omega, by show (1 + 1) * 32 ≤ _; decide, rfl, @fun A0 d0 _ => ?_⟩⟩
    have l3 := l3.trans l4
    have hst2 : failH st more = [ctP, waP] ++ more := by unfold failH; rw [if_pos h401]
    refine ⟨FSt, fun t => [(9, .v (.int .i64 t.i))], fun t => [[.v (.int .i64 0), .v (.slice none 0 0), .v (strV [])], [.v (.int .i64 st), .v (.slice t.A (2 + t.i) t.c), .v (strV (bodyE nm))]], fun t => [⟨.slice t.A (2 + t.i) t.c, 71, 2, 2 + t.i, (([ctP, waP] ++ more.take t.i).map pairC).flatten⟩], fun t _ => t.i ≤ more.length, fun t => more.length - t.i, ⟨0, A0, d0⟩,
      all_sl ⟨rfl, trivial⟩, rfl, ole_refl _, Nat.zero_le _, loopOK (fun _ => ⟨⟨trivial, rfl⟩, trivial⟩) (fun _ => rfl) (fun _ => rfl), ?_⟩
    rintro ⟨i, A, c⟩ W5 l5 hi fr
    dsimp only at hi
    refine ⟨rfl, br_split (fun hq => ?_) (fun hq => ?_)⟩
    · have hq : (i : Int) < more.length := hq
      obtain ⟨p1, rfl, x, hx, _, _, hr1⟩ := h.at (sz := 2) (fun _ => rfl) (l2.trans (l3.trans l5)) (j := i) ⟨by omega, hq⟩
      have hx : more[i]? = some x := hx
      refine ⟨⟨by omega, hq⟩, p1, rfl, pairC x, rfl, hr1.o, rfl, .inl fun g1 W6 l6 hg => ⟨0, _, pairC x, rfl, rfl, rfl, rfl, rfl, pairC_one _, fun _ => ⟨_, rfl, hg.o⟩, by show 2 + i + 1 ≤ _; omega, by show (2 + i + 1) * 32 ≤ _; omega, rfl, @fun A1 d1 _ => ?_⟩⟩
      have e2 : (([ctP, waP] ++ more.take (i + 1)).map pairC).flatten = (([ctP, waP] ++ more.take i).map pairC).flatten ++ pairC x := by rw [List.take_add_one, hx]; simp
      refine ⟨rfl, _, (i64_in ((i : Int) + 1) ⟨by omega, by omega⟩).symm, ⟨i + 1, A1, d1⟩, all_sl ⟨rfl, trivial⟩, rfl, ole_eq ?_, by dsimp only; omega, by dsimp only; omega⟩
      dsimp only
      rw [e2]; rfl
    · have hq : ¬ (i : Int) < more.length := hq
      obtain rfl : i = more.length := by omega
      refine RetVC.freeze (fun _ hb => hb) (i := 0) rfl fun Wm lm hs0 => ?_
      refine ret_plain rfl fun W' lw => ⟨_, rfl, ?_⟩
      have hs := SlRead.mono hs0 lw
      show RP pairC W' _ (failH st more)
      rw [hst2]
      unfold RP
      rw [List.take_length] at hs
      have hl : ([ctP, waP] ++ more).length = 2 + more.length := by rw [List.length_append]; rfl
      rw [hl]
      exact hs
  · intro h401
    have h401 : ¬ st = 401 := h401
    have hst2 : failH st more = [ctP] ++ more := by unfold failH; rw [if_neg h401]
    refine ⟨FSt, fun t => [(9, .v (.int .i64 t.i))], fun t => [[.v (.int .i64 0), .v (.slice none 0 0), .v (strV [])], [.v (.int .i64 st), .v (.slice t.A (1 + t.i) t.c), .v (strV (bodyE nm))]], fun t => [⟨.slice t.A (1 + t.i) t.c, 71, 2, 1 + t.i, (([ctP] ++ more.take t.i).map pairC).flatten⟩], fun t _ => t.i ≤ more.length, fun t => more.length - t.i, ⟨0, some ⟨g, 0, none⟩, 1⟩,
      all_sl ⟨rfl, trivial⟩, rfl, ole_refl _, Nat.zero_le _, loopOK (fun _ => ⟨⟨trivial, rfl⟩, trivial⟩) (fun _ => rfl) (fun _ => rfl), ?_⟩
    rintro ⟨i, A, c⟩ W5 l5 hi fr
    dsimp only at hi
    refine ⟨rfl, br_split (fun hq => ?_) (fun hq => ?_)⟩
    · have hq : (i : Int) < more.length := hq
      obtain ⟨p1, rfl, x, hx, _, _, hr1⟩ := h.at (sz := 2) (fun _ => rfl) (l2.trans (l3.trans l5)) (j := i) ⟨by omega, hq⟩
      have hx : more[i]? = some x := hx
      refine ⟨⟨by omega, hq⟩, p1, rfl, pairC x, rfl, hr1.o, rfl, .inl fun g1 W6 l6 hg => ⟨0, _, pairC x, rfl, rfl, rfl, rfl, rfl, pairC_one _, fun _ => ⟨_, rfl, hg.o⟩, by show 1 + i + 1 ≤ _; omega, by show (1 + i + 1) * 32 ≤ _; omega, rfl, @fun A1 d1 _ => ?_⟩⟩
      have e2 : (([ctP] ++ more.take (i + 1)).map pairC).flatten = (([ctP] ++ more.take i).map pairC).flatten ++ pairC x := by rw [List.take_add_one, hx]; simp
      refine ⟨rfl, _, (i64_in ((i : Int) + 1) ⟨by omega, by omega⟩).symm, ⟨i + 1, A1, d1⟩, all_sl ⟨rfl, trivial⟩, rfl, ole_eq ?_, by dsimp only; omega, by dsimp only; omega⟩
      dsimp only
      rw [e2]; rfl
    · have hq : ¬ (i : Int) < more.length := hq
      obtain rfl : i = more.length := by omega
      refine RetVC.freeze (fun _ hb => hb) (i := 0) rfl fun Wm lm hs0 => ?_
      refine ret_plain rfl fun W' lw => ⟨_, rfl, ?_⟩
      have hs := SlRead.mono hs0 lw
      show RP pairC W' _ (failH st more)
      rw [hst2]
      unfold RP
      rw [List.take_length] at hs
      have hl : ([ctP] ++ more).length = 1 + more.length := by rw [List.length_append]; rfl
      rw [hl]
      exact hs
end Go.Proofs.YtkhgmmejgikgnaaDoor
