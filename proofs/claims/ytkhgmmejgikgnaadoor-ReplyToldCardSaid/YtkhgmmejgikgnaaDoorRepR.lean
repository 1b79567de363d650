/- json.Print of an error's value, walked. -/
import Derived.Test.YtkhgmmejgikgnaaDoorRepP
import Derived.Test.YtkhgmmejgikgnaaDoorRepK
namespace Go.Proofs.YtkhgmmejgikgnaaDoor
open Go.RowKit

def pO (b : Nat) (t : BSt) : List Own := [bufO (.slice t.A t.l.length t.c) t.l, prO b t.p (.slice t.A t.l.length t.c)]
def jV (g1 g2 : Nat) : List PV := (jerr g1 g2).map PV.v
def frontE : List UInt8 := [123] ++ ([34] ++ errK ++ [34]) ++ [58]
theorem err_low : Low errK := by unfold Low errK; decide
set_option maxRecDepth 20000 in
set_option maxHeartbeats 8000000 in
theorem printOK (nm : List UInt8) (hlow : Low nm) (hl : nm.length ≤ 30) : PrintOK nm := by
  intro g1 g2 W h1 h2
  refine pureNX hmix Tryd.func50 r50 (by kernel_rfl) [nilO 5 1] rfl [.agg ⟨jerr g1 g2⟩] rfl ?_
  refine call_v rfl (fun W' lw => right_x nm hlow.asc (by omega) g1 g2 W' (h1.mono lw) (h2.mono lw)) (fun W2 v W3 l2 l3 hv => ?_)
  subst hv
  have lA := l2.trans l3
  obtain ⟨ti, tz, e1, e2, e3⟩ := prn_info
  refine bld_alloc rfl e1 e2 e3 fun b _ => ?_
  refine call_inl (vs := [bldP b, .agg ⟨jerr g1 g2⟩]) hmix Tryd.func91 r91 (by kernel_rfl) rfl rfl fun rc => ?_
  refine ⟨rfl, rfl, rfl, rfl, rfl, rfl, ?_⟩
  refine call_inl (vs := [bldP b, .agg ⟨jerr g1 g2⟩, .int .u8 123, .int .u8 125]) hmix Tryd.func139 r139 (by kernel_rfl) rfl rfl fun rc2 => ?_
  refine prn_wbyte (i := 1) (j := 0) (l := []) 123 rfl rfl rfl (by decide) (.inl rfl) (by decide) fun A0 d0 W4 l4 => ?_
  refine ⟨BSt, fun t => [(18, .v (.int .i64 t.i))], fun _ => [jV g1 g2, jV g1 g2, jV g1 g2], pO b, fun t _ => t.p = bldP b ∧ (t.i = 0 ∧ t.l = [123] ∨ t.i = 1 ∧ t.l = frontE ++ ([34] ++ nm ++ [34])), fun t => 1 - t.i, ⟨0, bldP b, A0, d0, [123]⟩,
    all_sl ⟨rfl, trivial⟩, rfl, ole_refl _, ⟨rfl, .inl ⟨rfl, rfl⟩⟩, loopOK (fun _ => ⟨⟨trivial, rfl⟩, trivial⟩) (fun _ => rfl) (fun _ => rfl), ?_⟩
  rintro ⟨i, p, A, c, l⟩ W5 l5 ⟨hu, hi⟩ fr
  dsimp only at hu hi
  subst hu
  have lB := lA.trans (l4.trans l5)
  rcases hi with ⟨rfl, rfl⟩ | ⟨rfl, rfl⟩
  · refine ⟨rfl, ⟨by show (0 : Int) ≤ 0; decide, by show (0 : Int) < 1; decide⟩, _, rfl, jerrL nm, rfl, Rds.o (h2.mono lB), rfl, rfl, ⟨by show (0 : Int) ≤ 0; decide, by show (0 : Int) < 1; decide⟩, _, rfl, strV errK, (h1.mono lB 0 _ rfl).o, ?_⟩
    refine call_v rfl (fun W' _ => quote_x errK err_low (by decide) W') (fun W6 v W7 l6 l7 hv => ?_)
    subst hv
    refine prn_write (i := 1) (j := 0) rfl rfl (by decide) (.inr rfl) (by show 1 + 7 ≤ 140737488355328; decide) fun A1 d1 _ => ?_
    refine prn_wbyte (i := 1) (j := 0) 58 rfl rfl rfl (by decide) (.inr rfl) (by show 8 + 1 ≤ 100000000; decide) fun A2 d2 W8 l8 => ?_
    refine call_inl (vs := [bldP b, .agg ⟨jerrL nm⟩]) hmix Tryd.func91 r91 (by kernel_rfl) rfl rfl fun rc3 => ?_
    refine ⟨rfl, rfl, rfl, rfl, ?_⟩
    refine call_v rfl (fun W' _ => quote_x nm hlow (by omega) W') (fun W9 v W10 l9 l10 hv => ?_)
    subst hv
    refine prn_write (i := 1) (j := 0) rfl rfl (by decide) (.inr rfl) (by show frontE.length + ([34] ++ nm ++ [34]).length ≤ _; rw [List.length_append, List.length_append]; show 9 + (1 + nm.length + 1) ≤ _; omega) fun A3 d3 _ => ?_
    exact ⟨_, rfl, rfl, _, (i64_in 1 ⟨by decide, by decide⟩).symm, ⟨1, bldP b, A3, d3, frontE ++ ([34] ++ nm ++ [34])⟩, all_sl ⟨rfl, trivial⟩, rfl, ole_refl _, ⟨rfl, .inr ⟨rfl, rfl⟩⟩, by show 1 - 1 < 1 - 0; decide⟩
  · refine ⟨rfl, ?_⟩
    have hfl : (frontE ++ ([34] ++ nm ++ [34])).length = nm.length + 11 := by rw [List.length_append, List.length_append, List.length_append]; show 9 + (1 + nm.length + 1) = _; omega
    have hbe : frontE ++ ([34] ++ nm ++ [34]) ++ [125] = bodyE nm := by simp [frontE, errK, bodyE]
    refine prn_wbyte (i := 1) (j := 0) 125 rfl rfl rfl (by decide) (.inr rfl) (by show (frontE ++ ([34] ++ nm ++ [34])).length + 1 ≤ _; omega) fun A6 d6 W8 l8 => ?_
    refine ⟨_, rfl, _, rfl, ?_⟩
    refine prn_len (i := 1) rfl ?_
    refine ⟨rfl, ?_⟩
    apply br_split
    · intro hn
      have hn : (65536 : Int) < ((frontE ++ ([34] ++ nm ++ [34]) ++ [125]).length : Int) := hn
      rw [List.length_append, hfl] at hn
      have : ([125] : List UInt8).length = 1 := rfl
      omega
    intro _
    refine prn_str (i := 1) (j := 0) rfl rfl rfl (by simp) (by rw [List.length_append, hfl]; show nm.length + 11 + 1 ≤ _; omega) fun g W9 hA hc l9 hF => ?_
    exact ret_plain rfl fun _ _ => by rw [← hbe]
theorem told_low (e : Int) : Low (toldS e).2 := by
  refine cases26 (P := fun e => Low (toldS e).2) (fun n hn => ?_) (fun h => by rw [told_out h]; unfold Low seT; decide)
  have : ∀ n : Nat, n < 26 → ∀ b ∈ (toldS n).2, 93 ≤ b.toNat ∧ b.toNat ≤ 122 := by decide
  exact this n hn
theorem replytold_x (e : Int) (l0 : List PairS) (u : Value) (W : PW) (hT : HT W) (hr : RP pairC W u l0) : CallsX Tryd.prog 10 ⟨[.int .i64 e, u]⟩ [] W fun v _ => v = .bool true :=
  rtold_x (fun e => printOK _ (told_low e) (told_len e)) e l0 u W hT hr
end Go.Proofs.YtkhgmmejgikgnaaDoor
