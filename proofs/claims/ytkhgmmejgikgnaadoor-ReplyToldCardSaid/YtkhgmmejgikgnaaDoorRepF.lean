/- Layer 35 (reply): what is rendered, walked: the document's function; the laws of what is rendered. -/
import Derived.Test.YtkhgmmejgikgnaaDoorRepD
import Derived.Test.YtkhgmmejgikgnaaDoorRepE
namespace Go.Proofs.YtkhgmmejgikgnaaDoor
open Go.RowKit

/-! ## The plain law -/
theorem joinW_end (sep : List UInt8) : ∀ (x : List UInt8) (l : List (List UInt8)), joinW sep (x :: l) ++ sep = x ++ sep ++ (l.map (· ++ sep)).flatten
  | x, [] => by simp [joinW]
  | x, y :: l => by
    have := joinW_end sep y l
    rw [joinW, List.append_assoc, this]
    simp
def clT : List UInt8 := [99, 111, 110, 116, 101, 110, 116, 45, 108, 101, 110, 103, 116, 104, 58, 32]
def tailT : List UInt8 := [13, 10, 99, 97, 99, 104, 101, 45, 99, 111, 110, 116, 114, 111, 108, 58, 32, 110, 111, 45, 115, 116, 111, 114, 101, 13, 10, 13, 10]
def accR (st : Int) (l : List PairS) : List UInt8 := headT st ++ crlf ++ ((l.map lineT).map (· ++ crlf)).flatten
theorem render_eq (st : Int) (hs : List PairS) (body : List UInt8) : renderS st hs body = accR st hs ++ clT ++ Lib.itoa body.length ++ tailT ++ body := by
  have e : renderS st hs body = (joinW crlf (headT st :: ([hs, extraQ (Lib.itoa body.length)].flatten).map lineT) ++ crlf) ++ crlf ++ body := by
    unfold renderS
    rw [show ([13, 10, 13, 10] : List UInt8) = crlf ++ crlf from rfl]
    simp only [List.append_assoc]
  rw [e, joinW_end]
  simp [accR, extraQ, lineT, clT, tailT, crlf, clN, ccN, nsV]
theorem accR_snoc {st : Int} {l : List PairS} {i : Nat} {p : PairS} (h : l[i]? = some p) : accR st (l.take (i + 1)) = accR st (l.take i) ++ p.name ++ [58, 32] ++ p.value ++ [13, 10] := by
  unfold accR
  rw [List.take_add_one, h]
  simp [lineT, crlf]
theorem render_big (st : Int) (hs : List PairS) (body : List UInt8) : 20 < (renderS st hs body).length := by
  rw [render_eq]
  have h1 : tailT.length = 29 := rfl
  simp only [List.length_append, h1]
  omega

/-! ## The document's Render -/
set_option maxHeartbeats 4000000 in
theorem refrender_x (st : Int) (h0 : -9223372036854775808 ≤ st) (h1 : st ≤ 9223372036854775807) (hs : List PairS) (hl : LitR hs) (body : List UInt8) (hb : body.length ≤ 1000) (u : Value) (W : PW) (h : RP pairC W u hs) :
    CallsX Tryd.prog 29 ⟨[.agg ⟨[.int .i64 st, u, strV body]⟩]⟩ [] W fun v W' => BR W' v (renderS st hs body) := by
  obtain ⟨a1, c1, rfl, _, _⟩ := h.form
  have hmax : (100000000 : Nat) ≤ maxLen := by decide
  have hl1 := hl.1
  refine pureX hmix Tryd.func29 r29 (by kernel_rfl) [.agg ⟨[.int .i64 st, .slice a1 hs.length c1, strV body]⟩] rfl ?_
  refine call_v rfl (fun W' lw => number_x st h0 h1 W') (fun W2 v W3 l2 l3 hv => ?_)
  have hyl := itoa_len st h0 h1
  obtain ⟨y, hy, rfl⟩ : ∃ y, Lib.itoa st = y ∧ v = strV y := ⟨_, rfl, hv⟩
  rw [hy] at hyl
  refine ⟨cat_q 100000 (by show 9 + y.length ≤ _; omega) (by decide), cat_q 100000 (by show y.length + 9 + 1 ≤ _; omega) (by decide), ?_⟩
  refine call_v rfl (fun W' _ => refreason_x st W') (fun W4 v W5 l4 l5 hv => ?_)
  have hzl := reason_len st
  obtain ⟨z, hz, rfl⟩ : ∃ z, reasonS st = z ∧ v = strV z := ⟨_, rfl, hv⟩
  rw [hz] at hzl
  refine ⟨cat_q 100000 (by show (([72, 84, 84, 80, 47, 49, 46, 49, 32] ++ y) ++ [32]).length + z.length ≤ _; rw [List.length_append, List.length_append]; show 9 + y.length + 1 + z.length ≤ _; omega) (by decide), cat_q 100000 (by show ((([72, 84, 84, 80, 47, 49, 46, 49, 32] ++ y) ++ [32]) ++ z).length + 2 ≤ _; rw [List.length_append, List.length_append, List.length_append]; show 9 + y.length + 1 + z.length + 2 ≤ _; omega) (by decide), ?_⟩
  refine ⟨Nat × List UInt8, fun t => [(4, .v (.int .i64 t.1)), (3, .v (strV t.2))], fun _ => [[.v (.int .i64 st), .v (.slice a1 hs.length c1), .v (strV body)]], fun _ => [], fun t _ => t.1 ≤ hs.length ∧ t.2 = accR st (hs.take t.1) ∧ t.2.length ≤ 300 + 210 * t.1, fun t => hs.length - t.1, (0, [72, 84, 84, 80, 47, 49, 46, 49, 32] ++ y ++ [32] ++ z ++ [13, 10]),
    all_sl ⟨rfl, rfl, trivial⟩, rfl, ole_refl _, ⟨Nat.zero_le _, ?_, ?_⟩, loopOK (fun _ => ⟨⟨trivial, rfl⟩, ⟨trivial, rfl⟩, trivial⟩) (fun _ => rfl) (fun _ => rfl), ?_⟩
  · show [72, 84, 84, 80, 47, 49, 46, 49, 32] ++ y ++ [32] ++ z ++ [13, 10] = accR st (hs.take 0)
    unfold accR headT
    rw [hy, hz]
    simp [crlf]
  · show ([72, 84, 84, 80, 47, 49, 46, 49, 32] ++ y ++ [32] ++ z ++ [13, 10]).length ≤ 300
    simp only [List.length_append, List.length_cons, List.length_nil]
    omega
  rintro ⟨i, s⟩ W12 l12 ⟨hi, hs2, hsl⟩ fr
  dsimp only at hi hs2 hsl
  have lA := l2.trans (l3.trans (l4.trans (l5.trans l12)))
  refine ⟨rfl, br_split (fun hq => ?_) (fun hq => ?_)⟩
  · have hq : (i : Int) < hs.length := hq
    obtain ⟨p1, rfl, p, hp, ha, _, _⟩ := h.at (sz := 2) (fun _ => rfl) lA (j := i) ⟨by omega, hq⟩
    have hp : hs[i]? = some p := hp
    have hpl := hl.2 p (List.mem_of_getElem? hp)
    refine ⟨⟨by omega, hq⟩, p1, rfl, strV p.name, (ha 0 _ rfl).o, cat_q 100000 (by show s.length + p.name.length ≤ _; omega) (by decide), cat_q 100000 (by show (s ++ p.name).length + 2 ≤ _; rw [List.length_append]; omega) (by decide), ⟨by omega, hq⟩, p1, rfl, strV p.value, (ha 1 _ rfl).o,
      cat_q 100000 (by show (s ++ p.name ++ [58, 32]).length + p.value.length ≤ _; rw [List.length_append, List.length_append]; show s.length + p.name.length + 2 + p.value.length ≤ _; omega) (by decide),
      cat_q 100000 (by show (s ++ p.name ++ [58, 32] ++ p.value).length + 2 ≤ _; rw [List.length_append, List.length_append, List.length_append]; show s.length + p.name.length + 2 + p.value.length + 2 ≤ _; omega) (by decide), ?_⟩
    refine ⟨rfl, _, (i64_in ((i : Int) + 1) ⟨by omega, by omega⟩).symm, (i + 1, s ++ p.name ++ [58, 32] ++ p.value ++ [13, 10]), all_sl ⟨rfl, rfl, trivial⟩, rfl, ole_refl _, ⟨by dsimp only; omega, ?_, ?_⟩, by dsimp only; omega⟩
    · dsimp only
      rw [accR_snoc hp, ← hs2]
    · show (s ++ p.name ++ [58, 32] ++ p.value ++ [13, 10]).length ≤ 300 + 210 * (i + 1)
      simp only [List.length_append, List.length_cons, List.length_nil]
      omega
  · have hq : ¬ (i : Int) < hs.length := hq
    obtain rfl : i = hs.length := by omega
    rw [List.take_length] at hs2
    refine ⟨cat_q 100000 (by show s.length + 16 ≤ _; omega) (by decide), ?_⟩
    refine call_v rfl (fun W' lw => number_x (body.length : Int) (by omega) (by omega) W') (fun W6 v W7 l6 l7 hv => ?_)
    have hwl := itoa_len (body.length : Int) (by omega) (by omega)
    obtain ⟨x, hx, rfl⟩ : ∃ x, Lib.itoa (body.length : Int) = x ∧ v = strV x := ⟨_, rfl, hv⟩
    rw [hx] at hwl
    refine ⟨cat_q 100000 (by show (s ++ clT).length + x.length ≤ _; rw [List.length_append]; show s.length + 16 + x.length ≤ _; omega) (by decide), cat_q 100000 (by show (s ++ clT ++ x).length + 29 ≤ _; rw [List.length_append, List.length_append]; show s.length + 16 + x.length + 29 ≤ _; omega) (by decide), cat_q 100000 (by show (s ++ clT ++ x ++ tailT).length + body.length ≤ _; rw [List.length_append, List.length_append, List.length_append]; show s.length + 16 + x.length + 29 + body.length ≤ _; omega) (by decide), ?_, fun b c W14 l14 hn hc hr => ?_⟩
    · show (s ++ clT ++ x ++ tailT ++ body).length ≤ maxLen
      rw [List.length_append, List.length_append, List.length_append, List.length_append]
      show s.length + 16 + x.length + 29 + body.length ≤ _
      omega
    refine ret_plain rfl fun W' lw => ?_
    have e : renderS st hs body = s ++ clT ++ x ++ tailT ++ body := by rw [render_eq, hx, hs2]
    rw [e]
    exact ⟨_, _, rfl, hn, hc, fun _ => ⟨_, rfl, hr.mono lw⟩⟩
end Go.Proofs.YtkhgmmejgikgnaaDoor
