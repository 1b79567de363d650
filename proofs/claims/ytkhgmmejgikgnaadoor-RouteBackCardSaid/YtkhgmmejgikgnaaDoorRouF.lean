/- RouteBack: the statement, walked. -/
import Derived.Test.YtkhgmmejgikgnaaDoorRouE
namespace Go.Proofs.YtkhgmmejgikgnaaDoor
open Go.RowKit

theorem joinone_x (x : List UInt8) (u : Value) (W : PW) (h : RP sC W u [x]) : CallsX Tryd.prog 72 ⟨[u, strV []]⟩ [] W fun v _ => v = strV x := by
  obtain ⟨a1, c1, rfl, _, _⟩ := h.form
  refine pureX hmix Tryd.func72 r72 (by kernel_rfl) [.slice a1 1 c1, strV []] rfl ?_
  obtain ⟨p1, rfl, y, hy, _, hr1, _⟩ := h.at (sz := 1) (fun _ => rfl) (PW.Le.refl _) (j := 0) ⟨by decide, by show (0 : Int) < ((1 : Nat) : Int); decide⟩
  obtain rfl : x = y := Option.some.inj hy
  refine ⟨rfl, rfl, ⟨by decide, by show (0 : Int) < ((1 : Nat) : Int); decide⟩, p1, rfl, strV x, (hr1 (by decide) _ rfl).o, ?_⟩
  exact ret_plain rfl fun _ _ => rfl
theorem indexno_x (u f : Value) (W : PW) (h : RP sC W u []) : CallsX Tryd.prog 123 ⟨[u, f]⟩ [] W fun v _ => v = .int .i64 (-1) := by
  obtain ⟨a1, c1, rfl, _, _⟩ := h.form
  refine pureX hmix Tryd.func123 r123 (by kernel_rfl) [.slice a1 0 c1, f] rfl ?_
  refine ⟨Unit, fun _ => [(8, .v (.int .i64 0))], fun _ => [], fun _ => [], fun _ _ => True, fun _ => 0, (),
    all_sl ⟨rfl, trivial⟩, rfl, ole_refl _, trivial, loopOK (fun _ => ⟨⟨trivial, rfl⟩, trivial⟩) (fun _ => rfl) (fun _ => rfl), ?_⟩
  intro _ W1 l1 _ fr
  refine ⟨rfl, ?_⟩
  exact ret_plain rfl fun _ _ => rfl
theorem containsno_x (u f : Value) (W : PW) (h : RP sC W u []) : CallsX Tryd.prog 83 ⟨[u, f]⟩ [] W fun v _ => v = .bool false := by
  obtain ⟨a1, c1, rfl, _, _⟩ := h.form
  refine pureX hmix Tryd.func83 r83 (by kernel_rfl) [.slice a1 0 c1, f] rfl ?_
  refine call_v rfl (fun W' lw => indexno_x _ f W' (h.mono lw)) (fun W1 v W2 l1 l2 hv => ?_)
  subst hv
  exact ⟨rfl, ret_plain rfl fun _ _ => rfl⟩

def authN : List UInt8 := [97, 117, 116, 104, 111, 114, 105, 122, 97, 116, 105, 111, 110]
def idN : List UInt8 := [99, 108, 105, 101, 110, 116, 95, 105, 100]
def secN : List UInt8 := [99, 108, 105, 101, 110, 116, 95, 115, 101, 99, 114, 101, 116]
theorem byhead_x (name secret : List UInt8) (hn : name.length ≤ 1000) (hs : secret.length ≤ 1000) (u : Value) (W : PW) (hM : HM W) (hU : HU W) (h : RP pairC W u [⟨authN, credS name secret⟩]) :
    CallsX Tryd.prog 43 ⟨[.agg ⟨reqC [] [] (.slice none 0 0) u (.slice none 0 0)⟩, .slice none 0 0]⟩ [] W fun v _ => v = .tuple ⟨[strV name, strV secret, .int .i64 0]⟩ := by
  refine pureX hmix Tryd.func43 r43 (by kernel_rfl) [.agg ⟨reqC [] [] (.slice none 0 0) u (.slice none 0 0)⟩, .slice none 0 0] rfl ?_
  refine call_v rfl (fun W' _ => values_x [] idN (by decide) _ W' (RP.nil _ _)) (fun W1 v1 W2 l1 l2 hv => ?_)
  have hv : RP sC W2 v1 [] := hv
  obtain ⟨a1, c1, rfl, _, _⟩ := hv.form
  refine call_v rfl (fun W' _ => values_x [] secN (by decide) _ W' (RP.nil _ _)) (fun W3 v2 W4 l3 l4 hv2 => ?_)
  have hv2 : RP sC W4 v2 [] := hv2
  obtain ⟨a2, c2, rfl, _, _⟩ := hv2.form
  have lA := l1.trans (l2.trans (l3.trans l4))
  refine call_v (vs := [.agg ⟨reqC [] [] (.slice none 0 0) u (.slice none 0 0)⟩, strV authN]) rfl (fun W' lw => header_x _ authN [] [] (by show 1 ≤ _; decide) _ u _ W' (h.mono (lA.trans lw))) (fun W5 v W6 l5 l6 hv3 => ?_)
  have eh : hdrS [⟨authN, credS name secret⟩] authN = (credS name secret, true) := by
    have : hdrF [⟨authN, credS name secret⟩] authN = (credS name secret, 1) := by
      show getF authN ([], 0) ⟨authN, credS name secret⟩ = _
      unfold getF; rw [if_pos rfl]
    unfold hdrS; rw [this]; rfl
  rw [eh] at hv3
  have hv3 : v = .tuple ⟨[strV (credS name secret), .bool true]⟩ := hv3
  have hpre := fun W' => haspre_x (encS (escS name ++ 58 :: escS secret)) W'
  have hba := fun W' => basic_x name secret hn hs W'
  have hpre : ∀ W', CallsX Tryd.prog 82 ⟨[strV (credS name secret), strV basicP]⟩ [] W' fun v _ => v = .bool true := hpre
  obtain ⟨s, hs'⟩ : ∃ s, credS name secret = s := ⟨_, rfl⟩
  rw [hs'] at hv3 hpre hba
  subst hv3
  have lB := lA.trans (l5.trans l6)
  refine ⟨_, rfl, _, rfl, ?_⟩
  refine call_v rfl (fun W' _ => hpre W') (fun W7 v W8 l7 l8 hv => ?_)
  subst hv
  have lC := lB.trans (l7.trans l8)
  refine call_v rfl (fun W' lw => hba W' (hM.mono (lC.trans lw)) (hU.mono (lC.trans lw))) (fun W9 v W10 l9 l10 hv => ?_)
  subst hv
  have lD := lC.trans (l9.trans l10)
  refine ⟨_, rfl, _, rfl, _, rfl, rfl, rfl, ?_⟩
  refine call_ro (fun v => v = .bool false) k83 (fun ρ w hst => ?_) (fun v W' _ hv => ?_)
  · exact containsno_x _ _ (PW.all w) ((RP.mono ‹RP sC W2 _ []› ((l3.trans l4).trans ((l5.trans l6).trans ((l7.trans l8).trans (l9.trans l10))))).mono hst.le_all)
  subst hv
  exact ret_plain rfl fun _ _ => rfl
theorem byform_x (name secret : List UInt8) (u : Value) (W : PW) (h : RP pairC W u [⟨idN, name⟩, ⟨secN, secret⟩]) :
    CallsX Tryd.prog 43 ⟨[.agg ⟨reqC [] [] (.slice none 0 0) (.slice none 0 0) (.slice none 0 0)⟩, u]⟩ [] W fun v _ => v = .tuple ⟨[strV name, strV secret, .int .i64 0]⟩ := by
  obtain ⟨a0, c0, rfl, _, _⟩ := h.form
  refine pureX hmix Tryd.func43 r43 (by kernel_rfl) [.agg ⟨reqC [] [] (.slice none 0 0) (.slice none 0 0) (.slice none 0 0)⟩, .slice a0 2 c0] rfl ?_
  refine call_v rfl (fun W' lw => values_x _ idN (by show 2 ≤ _; decide) _ W' (h.mono lw)) (fun W1 v1 W2 l1 l2 hv => ?_)
  have e1 : valS [⟨idN, name⟩, ⟨secN, secret⟩] idN = [name] := by
    have h1 : valF idN ⟨idN, name⟩ = true := by unfold valF; exact decide_eq_true rfl
    have h2 : valF idN ⟨secN, secret⟩ = false := by unfold valF; exact decide_eq_false (show ¬ secN = idN by decide)
    unfold valS; rw [List.filter_cons, if_pos h1, List.filter_cons, if_neg (by rw [h2]; decide)]; rfl
  have e2 : valS [⟨idN, name⟩, ⟨secN, secret⟩] secN = [secret] := by
    have h1 : valF secN ⟨idN, name⟩ = false := by unfold valF; exact decide_eq_false (show ¬ idN = secN by decide)
    have h2 : valF secN ⟨secN, secret⟩ = true := by unfold valF; exact decide_eq_true rfl
    unfold valS; rw [List.filter_cons, if_neg (by rw [h1]; decide), List.filter_cons, if_pos h2]; rfl
  rw [e1] at hv
  obtain ⟨a1, c1, rfl, _, _⟩ := RP.form hv
  refine call_v rfl (fun W' lw => values_x _ secN (by show 2 ≤ _; decide) _ W' (h.mono (l1.trans (l2.trans lw)))) (fun W3 v2 W4 l3 l4 hv2 => ?_)
  rw [e2] at hv2
  obtain ⟨a2, c2, rfl, _, _⟩ := RP.form hv2
  refine call_v (vs := [.agg ⟨reqC [] [] (.slice none 0 0) (.slice none 0 0) (.slice none 0 0)⟩, strV authN]) rfl (fun W' _ => header_x [] authN [] [] (by decide) _ _ _ W' (RP.nil _ _)) (fun W5 v W6 l5 l6 hv3 => ?_)
  have hv3 : v = .tuple ⟨[strV [], .bool false]⟩ := hv3
  subst hv3
  refine ⟨_, rfl, _, rfl, rfl, rfl, ?_⟩
  obtain ⟨p1, rfl, y, hy, _, hr1, _⟩ := RP.at (sz := 1) (fun _ => rfl) hv ((l3.trans l4).trans (l5.trans l6)) (j := 0) ⟨by decide, by show (0 : Int) < ((1 : Nat) : Int); decide⟩
  obtain rfl : name = y := Option.some.inj hy
  refine ⟨⟨by decide, by show (0 : Int) < ((1 : Nat) : Int); decide⟩, p1, rfl, strV name, (hr1 (by decide) _ rfl).o, ?_⟩
  refine call_v rfl (fun W' lw => joinone_x secret _ W' (RP.mono hv2 (l5.trans (l6.trans lw)))) (fun W7 v W8 l7 l8 hv4 => ?_)
  subst hv4
  exact ret_plain rfl fun _ _ => rfl

theorem places_tok (W : PW) : CallsX Tryd.prog 124 ⟨[strV [47, 116, 111, 107, 101, 110]]⟩ [] W fun v _ => v = .agg ⟨[.int .i64 2, .int .i64 0]⟩ := by
  refine pureX hmix Tryd.func124 r124 (by kernel_rfl) [strV [47, 116, 111, 107, 101, 110]] rfl ?_
  exact ret_plain rfl fun _ _ => rfl
theorem eqPl : EqOK Tryd.prog 154 [154] := ⟨Tryd.eqGuardType154, fun s hs => by rw [List.mem_singleton.1 hs]; exact Tryd.stoodInHeld154⟩
theorem find_tok (W : PW) : CallsX Tryd.prog 85 ⟨[strV [80, 79, 83, 84], strV [47, 116, 111, 107, 101, 110]]⟩ [] W fun v _ => v = .tuple ⟨[.int .i64 2, .int .i64 0]⟩ := by
  refine pureX hmix Tryd.func85 r85 (by kernel_rfl) [strV [80, 79, 83, 84], strV [47, 116, 111, 107, 101, 110]] rfl ?_
  refine call_v rfl (fun W' _ => places_tok W') (fun W1 v W2 l1 l2 hv => ?_)
  subst hv
  refine ⟨eqPl, rfl, ?_⟩
  exact ret_plain rfl fun _ _ => rfl
theorem rlives_x (W : PW) : CallsX Tryd.prog 44 ⟨[]⟩ [] W fun v _ => v = .bool true := by
  refine pureX hmix Tryd.func44 r44 (by kernel_rfl) [] rfl ?_
  refine call_v rfl (fun W' _ => find_tok W') (fun W1 v W2 l1 l2 hv => ?_)
  subst hv
  refine ⟨_, rfl, _, rfl, rfl, rfl, ?_⟩
  exact ret_plain rfl fun _ _ => rfl

set_option maxRecDepth 20000 in
theorem routeback_x (name0 secret0 : List UInt8) (W : PW) (hM : HM W) (hU : HU W) : CallsX Tryd.prog 11 ⟨[strV name0, strV secret0]⟩ [] W fun v _ => v = .bool true := by
  refine pureX hmix Tryd.func11 r11 (by kernel_rfl) [strV name0, strV secret0] rfl ?_
  refine call_v rfl (fun W' _ => short_x name0 60 W') (fun W1 v W2 l1 l2 hv => ?_)
  obtain ⟨name, hn, rfl⟩ : ∃ s, s.length ≤ 60 ∧ v = strV s := ⟨_, by rw [List.length_take]; omega, hv⟩
  refine call_v rfl (fun W' _ => short_x secret0 60 W') (fun W3 v W4 l3 l4 hv => ?_)
  obtain ⟨secret, hs, rfl⟩ : ∃ s, s.length ≤ 60 ∧ v = strV s := ⟨_, by rw [List.length_take]; omega, hv⟩
  have h1 := escS_len name
  have h2 := escS_len secret
  have hba := fun W' => basic_x name secret (by omega) (by omega) W'
  have hcl := fun u W' => byhead_x name secret (by omega) (by omega) u W'
  have lA := l1.trans (l2.trans (l3.trans l4))
  refine call_v rfl (fun W' _ => refescape_x name (by omega) W') (fun W5 v W6 l5 l6 hv => ?_)
  have eC : credS name secret = basicP ++ encS (escS name ++ 58 :: escS secret) := rfl
  obtain ⟨a, ha, rfl⟩ : ∃ a, escS name = a ∧ v = strV a := ⟨_, rfl, hv⟩
  rw [ha] at h1 eC
  refine ⟨cat_q 10000 (by show a.length + 1 ≤ _; omega) (by decide), ?_⟩
  refine call_v rfl (fun W' _ => refescape_x secret (by omega) W') (fun W7 v W8 l7 l8 hv => ?_)
  obtain ⟨b, hb, rfl⟩ : ∃ b, escS secret = b ∧ v = strV b := ⟨_, rfl, hv⟩
  rw [hb] at h2 eC
  refine ⟨cat_q 10000 (by show (a ++ [58]).length + b.length ≤ _; simp; omega) (by decide), ?_⟩
  refine call_v rfl (fun W' _ => refenc_x (a ++ [58] ++ b) (by simp; omega) W') (fun W9 v W10 l9 l10 hv => ?_)
  have hel := encS_len (a ++ 58 :: b)
  rw [show a ++ [58] ++ b = a ++ 58 :: b by simp] at hv
  obtain ⟨e, he, rfl⟩ : ∃ e, encS (a ++ 58 :: b) = e ∧ v = strV e := ⟨_, rfl, hv⟩
  rw [he] at hel eC
  have hab : (a ++ 58 :: b).length = a.length + (b.length + 1) := by simp
  refine ⟨cat_q 10000 (by show 6 + e.length ≤ _; omega) (by decide), ?_⟩
  have eC : credS name secret = [66, 97, 115, 105, 99, 32] ++ e := eC
  rw [eC] at hba hcl
  have lB := lA.trans (l5.trans (l6.trans (l7.trans (l8.trans (l9.trans l10)))))
  refine call_v rfl (fun W' lw => hba W' (hM.mono (lB.trans lw)) (hU.mono (lB.trans lw))) (fun W11 v W12 l11 l12 hv => ?_)
  subst hv
  have lC := lB.trans (l11.trans l12)
  refine ⟨_, rfl, _, rfl, _, rfl, rfl, br_f (by simp) ?_⟩
  refine br_f (by simp) ?_
  refine ⟨rfl, .inl fun g W13 l13 hr => ?_⟩
  have hp : RP pairC W13 (.slice (some ⟨g, 0, none⟩) 1 1) [⟨authN, [66, 97, 115, 105, 99, 32] ++ e⟩] := SlRead.of_rds (n := 1) hr (by decide)
  have lD := lC.trans l13
  refine call_v rfl (fun W' lw => hcl _ W' (hM.mono (lD.trans lw)) (hU.mono (lD.trans lw)) (RP.mono hp lw)) (fun W14 v W15 l14 l15 hv => ?_)
  subst hv
  refine ⟨_, rfl, _, rfl, _, rfl, rfl, .inl fun g2 W16 l16 hr2 => ?_⟩
  have hp2 : RP pairC W16 (.slice (some ⟨g2, 0, none⟩) 2 2) [⟨idN, name⟩, ⟨secN, secret⟩] := SlRead.of_rds (n := 2) hr2 (by decide)
  refine call_v rfl (fun W' lw => byform_x name secret _ W' (RP.mono hp2 lw)) (fun W17 v W18 l17 l18 hv => ?_)
  subst hv
  refine ⟨_, rfl, _, rfl, _, rfl, rfl, rfl, ?_⟩
  refine br_t (by simp) ?_
  refine br_t (by simp) ?_
  refine br_t (by simp) ?_
  refine br_t (by simp) ?_
  refine call_v rfl (fun W' _ => rlives_x W') (fun W19 v W20 l19 l20 hv => ?_)
  subst hv
  exact ret_plain rfl fun _ _ => rfl
end Go.Proofs.YtkhgmmejgikgnaaDoor
