/- Layer 35 (reply): bytes, responses compared; the law ReplyRenders. -/
import Derived.Test.YtkhgmmejgikgnaaDoorRepF
namespace Go.Proofs.YtkhgmmejgikgnaaDoor
open Go.RowKit

theorem BR.mono {W W' : PW} {v : Value} {l : List UInt8} (h : BR W v l) (lw : W.Le W') : BR W' v l := SlRead.mono h lw
theorem sameb_x (l : List UInt8) (hl : l.length ≤ 1000000) (u v : Value) (W : PW) (h1 : BR W u l) (h2 : BR W v l) : CallsX Tryd.prog 27 ⟨[u, v]⟩ [] W fun r _ => r = .bool true := by
  obtain ⟨a1, c1, rfl, _, _, hr1⟩ := h1
  obtain ⟨a2, c2, rfl, _, _, hr2⟩ := h2
  refine pureX hmix Tryd.func27 r27 (by kernel_rfl) [.slice a1 l.length c1, .slice a2 l.length c2] rfl ?_
  refine ⟨rfl, br_nsplit (fun hn => absurd rfl hn) (fun _ => ?_)⟩
  refine ⟨Nat, fun i => [(5, .v (.int .i64 i))], fun _ => [], fun _ => [], fun i _ => i ≤ l.length, fun i => l.length - i, 0,
    all_sl ⟨rfl, trivial⟩, rfl, ole_refl _, Nat.zero_le _, loopOK (fun _ => ⟨⟨trivial, rfl⟩, trivial⟩) (fun _ => rfl) (fun _ => rfl), ?_⟩
  intro i W1 l1 hi fr
  refine ⟨rfl, br_split (fun hq => ?_) (fun hq => ?_)⟩
  · have hq : (i : Int) < l.length := hq
    have hlt : i < l.length := by omega
    obtain ⟨p1, rfl, k1⟩ := hr1 (by omega)
    obtain ⟨p2, rfl, k2⟩ := hr2 (by omega)
    obtain ⟨x, hx⟩ : ∃ x, l[i]? = some x := ⟨_, List.getElem?_eq_getElem hlt⟩
    have hm : (l.map byteV)[i]? = some (byteV x) := by rw [List.getElem?_map, hx]; rfl
    have e1 := (k1 i _ hm).mono l1
    have e2 := (k2 i _ hm).mono l1
    obtain ⟨z, hz⟩ : ∃ z : Int, byteV x = .int .u8 z := ⟨_, rfl⟩
    rw [hz] at e1 e2
    refine ⟨⟨by omega, hq⟩, p1, rfl, .int .u8 z, .inl (by rw [Nat.mul_one]; exact e1), ⟨by omega, hq⟩, p2, rfl, .int .u8 z, .inl (by rw [Nat.mul_one]; exact e2), rfl, br_nsplit (fun hn => absurd rfl hn) (fun _ => ?_)⟩
    exact ⟨rfl, _, (i64_in ((i : Int) + 1) ⟨by omega, by omega⟩).symm, i + 1, all_sl ⟨rfl, trivial⟩, rfl, ole_refl _, by omega, by dsimp only; omega⟩
  exact ret_plain rfl fun _ _ => rfl
def respC (st : Int) (u : Value) (b : List UInt8) : List Value := [.int .i64 st, u, strV b]
theorem plainr_x (st : Int) (u : Value) (hu : ∃ A n c, u = .slice A n c) (b : List UInt8) (W : PW) : CallsX Tryd.prog 31 ⟨[.agg ⟨respC st u b⟩]⟩ [] W fun v _ => v = .agg ⟨respC st u b⟩ := by
  obtain ⟨A, n, c, rfl⟩ := hu
  refine pureX hmix Tryd.func31 r31 (by kernel_rfl) [.agg ⟨[.int .i64 st, .slice A n c, strV b]⟩] rfl ?_
  exact ret_plain rfl fun _ _ => rfl
theorem samer_x (st : Int) (hs : List PairS) (hl : hs.length ≤ 1000000) (u v : Value) (b : List UInt8) (W : PW) (h1 : RP pairC W u hs) (h2 : RP pairC W v hs) : CallsX Tryd.prog 30 ⟨[.agg ⟨respC st u b⟩, .agg ⟨respC st v b⟩]⟩ [] W fun r _ => r = .bool true := by
  obtain ⟨a1, c1, rfl, _, _⟩ := h1.form
  obtain ⟨a2, c2, rfl, _, _⟩ := h2.form
  refine pureX hmix Tryd.func30 r30 (by kernel_rfl) [.agg ⟨[.int .i64 st, .slice a1 hs.length c1, strV b]⟩, .agg ⟨[.int .i64 st, .slice a2 hs.length c2, strV b]⟩] rfl ?_
  refine ⟨rfl, br_yes rfl ?_⟩
  refine call_v rfl (fun W' lw => samep_x hs hl _ _ W' (h1.mono lw) (h2.mono lw)) (fun W8 v W9 l8 l9 hv => ?_)
  subst hv
  exact ret_plain rfl fun _ _ => by simp
theorem told18_x (W : PW) : CallsX Tryd.prog 37 ⟨[.int .i64 18]⟩ [] W fun v _ => v = .tuple ⟨[.int .i64 400, strV [105, 110, 118, 97, 108, 105, 100, 95, 103, 114, 97, 110, 116]]⟩ := by
  refine pureX hmix Tryd.func37 r37 (by kernel_rfl) [.int .i64 18] rfl ?_
  exact ⟨rfl, rfl, rfl, rfl, rfl, rfl, rfl, rfl, ret_plain rfl fun _ _ => rfl⟩
theorem rlives_x (W : PW) (hT : HT W) : CallsX Tryd.prog 32 ⟨[]⟩ [] W fun v _ => v = .bool true := by
  refine pureX hmix Tryd.func32 r32 (by kernel_rfl) [] rfl ?_
  refine call_v rfl (fun W' _ => told18_x W') (fun W2 v W3 l2 l3 hv => ?_)
  subst hv
  refine ⟨_, rfl, _, rfl, rfl, ?_⟩
  refine call_v rfl (fun W' lw => render_x 200 (by decide) (by decide) [] ⟨Nat.zero_le _, fun p hp => (by cases hp)⟩ [] (Nat.zero_le _) _ W' (hT.mono (l2.trans (l3.trans lw))) (RP.nil _ _)) (fun W4 v W5 l4 l5 hv => ?_)
  have hb := render_big 200 [] []
  obtain ⟨a, c, rfl, _, _, _⟩ := hv
  refine ⟨rfl, ret_plain rfl fun _ _ => ?_⟩
  show Value.bool (decide ((20 : Int) < ((renderS 200 [] []).length : Int))) = .bool true
  rw [decide_eq_true (by omega)]
theorem few_lit {n k : Nat} {l : List PairS} (hn : n ≤ 20) (hk : k ≤ 100) : LitR (fewL n k l) := by
  refine ⟨by unfold fewL; rw [List.length_map, List.length_take]; omega, fun p hp => ?_⟩
  obtain ⟨q, _, rfl⟩ := List.mem_map.1 hp
  exact ⟨by show (q.name.take k).length ≤ 100; rw [List.length_take]; omega, by show (q.value.take k).length ≤ 100; rw [List.length_take]; omega⟩
theorem few_few {n k : Nat} {l : List PairS} : fewL n k (fewL n k l) = fewL n k l := by
  unfold fewL
  rw [← List.map_take, List.take_take, Nat.min_self, List.map_map]
  refine List.map_congr_left fun p _ => ?_
  simp [fewP, List.take_take]
theorem render_len (st : Int) (h0 : -9223372036854775808 ≤ st) (h1 : st ≤ 9223372036854775807) (hs : List PairS) (hl : LitR hs) (body : List UInt8) (hb : body.length ≤ 1000) : (renderS st hs body).length ≤ 1000000 := by
  have hl1 := hl.1
  have k1 := itoa_len st h0 h1
  have k2 := itoa_len (body.length : Int) (by omega) (by omega)
  have k3 := reason_len st
  obtain ⟨hh, hhe⟩ : ∃ hh, [hs, extraQ (Lib.itoa body.length)].flatten = hh := ⟨_, rfl⟩
  have hlen : hh.length = hs.length + 2 := by rw [← hhe]; simp [extraQ]
  have hall : ∀ p ∈ hh, p.name.length ≤ 100 ∧ p.value.length ≤ 100 := by
    intro p hp
    rw [← hhe] at hp
    simp only [List.flatten_cons, List.flatten_nil, List.append_nil, List.mem_append, extraQ, List.mem_cons, List.not_mem_nil, or_false] at hp
    rcases hp with hp | rfl | rfl
    · exact hl.2 p hp
    · exact ⟨by show 14 ≤ 100; decide, by show (Lib.itoa body.length).length ≤ 100; omega⟩
    · exact ⟨by show 13 ≤ 100; decide, by show 8 ≤ 100; decide⟩
  have hd : (headT st).length ≤ 202 := by
    unfold headT
    rw [List.length_append, List.length_append, List.length_append]
    show 9 + (Lib.itoa st).length + 1 + (reasonS st).length ≤ _
    omega
  have := joinW_len crlf 202 (headT st :: hh.map lineT) fun w hw => by
    rcases List.mem_cons.1 hw with rfl | hw
    · exact hd
    · obtain ⟨p, hp, rfl⟩ := List.mem_map.1 hw
      exact lineT_len (hall p hp)
  have h3 : (headT st :: hh.map lineT).length = hh.length + 1 := by simp
  have h4 : (headT st :: hh.map lineT).length * (202 + crlf.length) ≤ 23 * 204 := Nat.mul_le_mul (by omega) (Nat.le_refl _)
  unfold renderS
  rw [hhe, List.length_append, List.length_append]
  show (joinW crlf (headT st :: hh.map lineT)).length + 4 + body.length ≤ _
  omega
set_option maxHeartbeats 4000000 in
theorem rrenders_x (st : Int) (h0 : -9223372036854775808 ≤ st) (h1 : st ≤ 9223372036854775807) (l0 : List PairS) (b0 : List UInt8) (u : Value) (W : PW) (hT : HT W) (hr : RP pairC W u l0) : CallsX Tryd.prog 7 ⟨[.agg ⟨respC st u b0⟩]⟩ [] W fun v _ => v = .bool true := by
  obtain ⟨a0, c0, rfl, _, _⟩ := hr.form
  refine pureX hmix Tryd.func7 r7 (by kernel_rfl) [.agg ⟨[.int .i64 st, .slice a0 l0.length c0, strV b0]⟩] rfl ?_
  refine call_v rfl (fun W' lw => fewp_x l0 6 40 (by decide) _ W' (hr.mono lw)) (fun W2 v W3 l2 l3 hv => ?_)
  have hl := few_lit (n := 6) (k := 40) (l := l0) (by decide) (by decide)
  have hff := few_few (n := 6) (k := 40) (l := l0)
  obtain ⟨l, hle⟩ : ∃ l, fewL 6 40 l0 = l := ⟨_, rfl⟩
  rw [hle] at hv hl hff
  obtain ⟨a1, c1, rfl, _, _⟩ := hv.form
  refine call_v rfl (fun W' _ => short_x b0 200 W') (fun W4 v W5 l4 l5 hv2 => ?_)
  obtain ⟨b, hb, rfl⟩ : ∃ b, b.length ≤ 200 ∧ v = strV b := ⟨_, by rw [List.length_take]; omega, hv2⟩
  have hrl := render_len st h0 h1 l hl b (by omega)
  have lA := l4.trans l5
  refine ⟨?_, ?_⟩
  all_goals
    refine call_v rfl (fun W' lw => fewp_x l 6 40 (by decide) _ W' (hv.mono (lA.trans lw))) (fun W6 v W7 l6 l7 hw => ?_)
    rw [hff] at hw
    obtain ⟨a2, c2, rfl, _, _⟩ := hw.form
    refine call_v rfl (fun W' lw => render_x st h0 h1 l hl b (by omega) _ W' (hT.mono (l2.trans (l3.trans (lA.trans (l6.trans (l7.trans lw)))))) (hw.mono lw)) (fun W8 v W9 l8 l9 hx => ?_)
    obtain ⟨a3, c3, rfl, _, _⟩ := SlRead.form hx
    refine call_v rfl (fun W' lw => refrender_x st h0 h1 l hl b (by omega) _ W' (hv.mono (lA.trans (l6.trans (l7.trans (l8.trans (l9.trans lw))))))) (fun W10 v W11 l10 l11 hy => ?_)
    obtain ⟨a4, c4, rfl, _, _⟩ := SlRead.form hy
    refine call_v rfl (fun W' lw => sameb_x _ hrl _ _ W' (hx.mono (l10.trans (l11.trans lw))) (hy.mono lw)) (fun W12 v W13 l12 l13 hz => ?_)
    subst hz
    refine call_v rfl (fun W' lw => plainr_x st (.slice a2 l.length c2) ⟨_, _, _, rfl⟩ b W') (fun W14 v W15 l14 l15 hz => ?_)
    subst hz
    refine call_v rfl (fun W' lw => samer_x st l (by have := hl.1; omega) _ _ b W' (hw.mono (l8.trans (l9.trans (l10.trans (l11.trans (l12.trans (l13.trans (l14.trans (l15.trans lw))))))))) (hv.mono (lA.trans (l6.trans (l7.trans (l8.trans (l9.trans (l10.trans (l11.trans (l12.trans (l13.trans (l14.trans (l15.trans lw))))))))))))) (fun W16 v W17 l16 l17 hz => ?_)
    subst hz
    refine call_v rfl (fun W' lw => rlives_x W' (hT.mono (l2.trans (l3.trans (lA.trans (l6.trans (l7.trans (l8.trans (l9.trans (l10.trans (l11.trans (l12.trans (l13.trans (l14.trans (l15.trans (l16.trans (l17.trans lw))))))))))))))))) (fun W18 v W19 l18 l19 hz => ?_)
    subst hz
    exact ret_plain rfl fun _ _ => rfl
end Go.Proofs.YtkhgmmejgikgnaaDoor
