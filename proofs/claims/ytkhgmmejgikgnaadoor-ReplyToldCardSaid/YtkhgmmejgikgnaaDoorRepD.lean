/- Layer 35 (reply): what is rendered, walked: the program's function. -/
import Derived.Test.YtkhgmmejgikgnaaDoorRepA
import Derived.Test.YtkhgmmejgikgnaaDoorRepB
import Derived.Test.YtkhgmmejgikgnaaDoorRepC
import Derived.Test.YtkhgmmejgikgnaaDoorCodeRS
namespace Go.Proofs.YtkhgmmejgikgnaaDoor
open Go.RowKit

def crlf : List UInt8 := [13, 10]
def lineT (p : PairS) : List UInt8 := p.name ++ [58, 32] ++ p.value
def headT (st : Int) : List UInt8 := [72, 84, 84, 80, 47, 49, 46, 49, 32] ++ Lib.itoa st ++ [32] ++ reasonS st
def clN : List UInt8 := [99, 111, 110, 116, 101, 110, 116, 45, 108, 101, 110, 103, 116, 104]
def ccN : List UInt8 := [99, 97, 99, 104, 101, 45, 99, 111, 110, 116, 114, 111, 108]
def nsV : List UInt8 := [110, 111, 45, 115, 116, 111, 114, 101]
def extraQ (y : List UInt8) : List PairS := [⟨clN, y⟩, ⟨ccN, nsV⟩]
def renderS (st : Int) (hs : List PairS) (body : List UInt8) : List UInt8 := joinW crlf (headT st :: ([hs, extraQ (Lib.itoa body.length)].flatten).map lineT) ++ [13, 10, 13, 10] ++ body
/-- Few, short headers. -/
def LitR (l : List PairS) : Prop := l.length ≤ 20 ∧ ∀ p ∈ l, p.name.length ≤ 100 ∧ p.value.length ≤ 100
theorem reason_len (s : Int) : (reasonS s).length ≤ 30 := by
  have : ∀ l : List (Int × List UInt8), (∀ p ∈ l, p.2.length ≤ 30) → (reasonF l s).length ≤ 30 := by
    intro l
    induction l with
    | nil => intro _; show 7 ≤ 30; decide
    | cons a l ih =>
      intro h
      obtain ⟨n, t⟩ := a
      unfold reasonF
      split
      · exact h _ (List.mem_cons_self ..)
      · exact ih fun p hp => h p (List.mem_cons_of_mem _ hp)
  exact this reasonsL (by decide)
def BR (W : PW) (v : Value) (l : List UInt8) : Prop := SlRead W v l.length (l.map byteV)
theorem two_args {W : PW} {u v : Value} {l m : List PairS} (h1 : RP pairC W u l) (h2 : RP pairC W v m) : ∀ (j : Nat) (x : Value) (k : List PairS), [u, v][j]? = some x → [l, m][j]? = some k → RP pairC W x k
  | 0, x, k, e1, e2 => by
    obtain rfl : u = x := Option.some.inj e1
    obtain rfl : l = k := Option.some.inj e2
    exact h1
  | 1, x, k, e1, e2 => by
    obtain rfl : v = x := Option.some.inj e1
    obtain rfl : m = k := Option.some.inj e2
    exact h2
  | j + 2, x, k, e1, e2 => by simp at e1
theorem lineT_len {p : PairS} (h : p.name.length ≤ 100 ∧ p.value.length ≤ 100) : (lineT p).length ≤ 202 := by
  unfold lineT
  rw [List.length_append, List.length_append]
  show p.name.length + 2 + p.value.length ≤ _
  omega
set_option maxHeartbeats 4000000 in
theorem render_x (st : Int) (h0 : -9223372036854775808 ≤ st) (h1 : st ≤ 9223372036854775807) (hs : List PairS) (hl : LitR hs) (body : List UInt8) (hb : body.length ≤ 1000) (u : Value) (W : PW) (hT : HT W) (h : RP pairC W u hs) :
    CallsX Tryd.prog 28 ⟨[.agg ⟨[.int .i64 st, u, strV body]⟩]⟩ [] W fun v W' => BR W' v (renderS st hs body) := by
  obtain ⟨a1, c1, rfl, _, _⟩ := h.form
  have hmax : (100000000 : Nat) ≤ maxLen := by decide
  refine pureX hmix Tryd.func28 r28 (by kernel_rfl) [.agg ⟨[.int .i64 st, .slice a1 hs.length c1, strV body]⟩] rfl ?_
  refine call_v rfl (fun W' lw => ditoa_x st h0 h1 W' (hT.mono lw)) (fun W2 v W3 l2 l3 hv => ?_)
  have hyl := itoa_len st h0 h1
  obtain ⟨y, hy, rfl⟩ : ∃ y, Lib.itoa st = y ∧ v = strV y := ⟨_, rfl, hv⟩
  rw [hy] at hyl
  refine ⟨cat_q 100000 (by show 9 + y.length ≤ _; omega) (by decide), cat_q 100000 (by show y.length + 9 + 1 ≤ _; omega) (by decide), ?_⟩
  refine call_v rfl (fun W' _ => reason_x st W') (fun W4 v W5 l4 l5 hv => ?_)
  have hzl := reason_len st
  obtain ⟨z, hz, rfl⟩ : ∃ z, reasonS st = z ∧ v = strV z := ⟨_, rfl, hv⟩
  rw [hz] at hzl
  refine ⟨cat_q 100000 (by show (([72, 84, 84, 80, 47, 49, 46, 49, 32] ++ y) ++ [32]).length + z.length ≤ _; rw [List.length_append, List.length_append]; show 9 + y.length + 1 + z.length ≤ _; omega) (by decide), rfl, .inr fun g => ?_⟩
  refine call_v rfl (fun W' lw => ditoa_x (body.length : Int) (by omega) (by omega) W' (hT.mono (l2.trans (l3.trans (l4.trans (l5.trans lw)))))) (fun W6 v W7 l6 l7 hv => ?_)
  have hwl := itoa_len (body.length : Int) (by omega) (by omega)
  obtain ⟨x, hx, rfl⟩ : ∃ x, Lib.itoa (body.length : Int) = x ∧ v = strV x := ⟨_, rfl, hv⟩
  rw [hx] at hwl
  refine ⟨rfl, .inl fun g1 W8 l8 hr8 => ⟨rfl, .inl fun g2 W9 l9 hr9 => ?_⟩⟩
  have hh1 := h.mono (l2.trans (l3.trans (l4.trans (l5.trans (l6.trans (l7.trans (l8.trans l9)))))))
  have hl1 := hl.1
  obtain ⟨hh, hhe⟩ : ∃ hh, [hs, extraQ x].flatten = hh := ⟨_, rfl⟩
  have hlen : hh.length = hs.length + 2 := by rw [← hhe]; simp [extraQ]
  have hall : ∀ p ∈ hh, p.name.length ≤ 100 ∧ p.value.length ≤ 100 := by
    intro p hp
    rw [← hhe] at hp
    simp only [List.flatten_cons, List.flatten_nil, List.append_nil, List.mem_append, extraQ, List.mem_cons, List.not_mem_nil, or_false] at hp
    rcases hp with hp | rfl | rfl
    · exact hl.2 p hp
    · exact ⟨by show 14 ≤ 100; decide, by show x.length ≤ 100; omega⟩
    · exact ⟨by show 13 ≤ 100; decide, by show 8 ≤ 100; decide⟩
  refine call_v rfl (fun W' lw => concat_x [.slice a1 hs.length c1, .slice (some ⟨g1, 0, none⟩) 2 2] [hs, extraQ x] rfl (by show 2 ≤ 10; decide) (by rw [hhe]; omega) (by rw [hhe]; omega) _ W' ⟨_, _, rfl, Nat.le_refl _, by decide, fun _ => ⟨_, rfl, hr9.mono lw⟩⟩ (two_args (hh1.mono lw) ⟨_, _, rfl, Nat.le_refl _, by decide, fun _ => ⟨_, rfl, hr8.mono (l9.trans lw)⟩⟩)) (fun W10 v W11 l10 l11 hv => ?_)
  rw [hhe] at hv
  obtain ⟨a3, c3, rfl, _, _⟩ := hv.form
  refine ⟨FSt, fun t => [(3, .v (.slice t.A (t.i + 1) t.c)), (30, .v (.int .i64 t.i))], fun _ => [[.v (.int .i64 st), .v (.slice a1 hs.length c1), .v (strV body)]], fun t => [⟨.slice t.A (t.i + 1) t.c, 9, 1, t.i + 1, strV ([72, 84, 84, 80, 47, 49, 46, 49, 32] ++ y ++ [32] ++ z) :: ((hh.take t.i).map lineT).map strV⟩], fun t _ => t.i ≤ hh.length, fun t => hh.length - t.i, ⟨0, some ⟨g, 0, none⟩, 1⟩,
    all_sl ⟨rfl, rfl, trivial⟩, rfl, ole_refl _, Nat.zero_le _, loopOK (fun _ => ⟨⟨trivial, rfl⟩, ⟨trivial, rfl⟩, trivial⟩) (fun _ => rfl) (fun _ => rfl), ?_⟩
  rintro ⟨i, A, c⟩ W12 l12 hi fr
  dsimp only at hi
  refine ⟨rfl, br_split (fun hq => ?_) (fun hq => ?_)⟩
  · have hq : (i : Int) < hh.length := hq
    obtain ⟨p1, rfl, p, hp, _, _, hr1⟩ := hv.at (sz := 2) (fun _ => rfl) l12 (j := i) ⟨by omega, hq⟩
    have hp : hh[i]? = some p := hp
    have hpl := hall p (List.mem_of_getElem? hp)
    refine ⟨⟨by omega, hq⟩, p1, rfl, pairC p, rfl, hr1.o, cat_q 100000 (by show p.name.length + 2 ≤ _; omega) (by decide), cat_q 100000 (by show (p.name ++ [58, 32]).length + p.value.length ≤ _; rw [List.length_append]; show p.name.length + 2 + p.value.length ≤ _; omega) (by decide), rfl, .inl fun g5 W13 l13 hg => ⟨0, _, sC (lineT p), rfl, rfl, rfl, rfl, rfl, sC_one _, fun _ => ⟨_, rfl, hg.o⟩, by show i + 1 + 1 ≤ _; omega, by show (i + 1 + 1) * 16 ≤ _; omega, rfl, @fun A1 d1 _ => ?_⟩⟩
    have e : ((hh.take (i + 1)).map lineT).map strV = ((hh.take i).map lineT).map strV ++ sC (lineT p) := by
      rw [List.take_add_one, hp, List.map_append, List.map_append]; rfl
    refine ⟨rfl, _, (i64_in ((i : Int) + 1) ⟨by omega, by omega⟩).symm, ⟨i + 1, A1, d1⟩, all_sl ⟨rfl, rfl, trivial⟩, rfl, ole_eq ?_, by dsimp only; omega, by dsimp only; omega⟩
    dsimp only
    rw [e]; rfl
  · have hq : ¬ (i : Int) < hh.length := hq
    obtain rfl : i = hh.length := by omega
    obtain ⟨L, hL⟩ : ∃ L, headT st :: hh.map lineT = L := ⟨_, rfl⟩
    have hjl : (joinW crlf L).length ≤ 22 * 204 + 1000 := by
      have hd : (headT st).length ≤ 202 := by
        unfold headT
        rw [hy, hz, List.length_append, List.length_append, List.length_append]
        show 9 + y.length + 1 + z.length ≤ _
        omega
      have := joinW_len crlf 202 L fun w hw => by
        rw [← hL] at hw
        rcases List.mem_cons.1 hw with rfl | hw
        · exact hd
        · obtain ⟨p, hp, rfl⟩ := List.mem_map.1 hw
          exact lineT_len (hall p hp)
      have h3 : L.length = hh.length + 1 := by rw [← hL]; simp
      have h4 : L.length * (202 + crlf.length) ≤ 23 * 204 := Nat.mul_le_mul (by omega) (Nat.le_refl _)
      omega
    refine call_ro (fun v => v = strV (joinW crlf L)) ⟨_, Tryd.func72, by kernel_rfl, by kernel_rfl⟩ (fun ρ w hst => ?_) (fun v W13 l13 hv2 => ?_)
    · have ho := (hst.own 0 _ rfl).1
      rw [joinW_lib] at hjl ⊢
      have h3 : L.length = hh.length + 1 := by rw [← hL]; simp
      refine joinlib_x (e := 9) L crlf _ _ ?_ (by omega) (by omega)
      rw [h3, ← hL]
      rw [List.take_length] at ho
      unfold headT
      rw [hy, hz]
      exact ho
    · obtain ⟨j, hj, rfl⟩ : ∃ j, joinW crlf L = j ∧ v = strV j := ⟨_, rfl, hv2⟩
      rw [hj] at hjl
      refine ⟨cat_q 100000 (by show j.length + 4 ≤ _; omega) (by decide), cat_q 100000 (by show (j ++ [13, 10, 13, 10]).length + body.length ≤ _; rw [List.length_append]; show j.length + 4 + body.length ≤ _; omega) (by decide), ?_, fun b c W14 l14 hn hc hr => ?_⟩
      · show (j ++ [13, 10, 13, 10] ++ body).length ≤ maxLen
        rw [List.length_append, List.length_append]
        show j.length + 4 + body.length ≤ _
        omega
      refine ret_plain rfl fun W' lw => ?_
      have e : renderS st hs body = j ++ [13, 10, 13, 10] ++ body := by unfold renderS; rw [hx, hhe, hL, hj]
      rw [e]
      exact ⟨_, _, rfl, hn, hc, fun _ => ⟨_, rfl, hr.mono lw⟩⟩
end Go.Proofs.YtkhgmmejgikgnaaDoor
