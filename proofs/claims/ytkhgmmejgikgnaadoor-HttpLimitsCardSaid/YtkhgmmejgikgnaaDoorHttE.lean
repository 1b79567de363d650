/- Requests, walked: a header's line; how long the body is. -/
import Derived.Test.YtkhgmmejgikgnaaDoorHttD
import Derived.Laws.Entries
import Derived.WideLaws
namespace Go.Proofs.YtkhgmmejgikgnaaDoor
open Go.RowKit

section
variable {P : Program} {B : Base}
/-- An interface's value compared with nil. -/
theorem raw_eqnil_t {o : Oper} {t ty : TypeId} {x : Operand} {f : Fr} {prot : List Nat} {S : GS} {K : GV → GS → Prop} (ht : P.underlying t = some (.interface (P.methodsAt t))) (ho : o.op = .binOp .eql t x (.const .nilIface) ty) (hx : evG f x = .v .nilIface) (hK : K (.v (.bool true)) S) : RawVC P B o f prot S K := by
  refine ⟨fun ρ w ev hev hst => ⟨.v (.bool true), S, ρ, w, ?_, fun _ _ => rfl, Grow.refl _ _, trivial, hst, hK⟩⟩
  obtain ⟨dst, op, type, pos, after, guard⟩ := o
  obtain rfl : op = .binOp .eql t x (.const .nilIface) ty := ho
  have e1 : ev x = .nilIface := by rw [hev, hx]; rfl
  have e2 : ev (.const .nilIface) = .nilIface := by rw [hev]; rfl
  simp only [execOp, e1, e2, eqGuard_nil_constR, Sem.run_bind, Sem.run_pure, Result.andThen_ok, run_eql_nil_nil w t ht]
  rfl
theorem raw_eqnil_f {o : Oper} {t ty d : TypeId} {z : Value} {x : Operand} {f : Fr} {prot : List Nat} {S : GS} {K : GV → GS → Prop} (ht : P.underlying t = some (.interface (P.methodsAt t))) (ho : o.op = .binOp .eql t x (.const .nilIface) ty) (hx : evG f x = .v (.iface d z)) (hK : K (.v (.bool false)) S) : RawVC P B o f prot S K := by
  refine ⟨fun ρ w ev hev hst => ⟨.v (.bool false), S, ρ, w, ?_, fun _ _ => rfl, Grow.refl _ _, trivial, hst, hK⟩⟩
  obtain ⟨dst, op, type, pos, after, guard⟩ := o
  obtain rfl : op = .binOp .eql t x (.const .nilIface) ty := ho
  have e1 : ev x = .iface d z := by rw [hev, hx]; rfl
  have e2 : ev (.const .nilIface) = .nilIface := by rw [hev]; rfl
  simp only [execOp, e1, e2, eqGuard_at_iface, Sem.run_bind, Sem.run_pure, Result.andThen_ok, run_eql_held_nil w t d z ht]
  rfl
end

def HdrR (W : PW) (n₀ : Nat) (xs : List Nat) (g : Nat) (m p : List UInt8) (q b : Value) (hs : List PairS) (A : Option Addr) (c : Nat) (v : Value) (r : Option PairS) : Prop :=
  match r with
  | some h => v = .bool true ∧ ∃ A' c', OwnB W g (reqC m p q (.slice A' (hs ++ [h]).length c') b) ∧ OwnS xs n₀ W (pairO (.slice A' (hs ++ [h]).length c') (hs ++ [h]))
  | none => v = .bool false ∧ OwnB W g (reqC m p q (.slice A hs.length c) b) ∧ OwnS xs n₀ W (pairO (.slice A hs.length c) hs)
theorem own_pair {xs : List Nat} {n₀ : Nat} {W : PW} {A : Option Addr} {c n : Nat} {hs : List PairS} {h : PairS} {cs : List Value} (hcs : cs = (hs.map pairC).flatten ++ pairC h) (hn : n = hs.length + 1) (ho : OwnS xs n₀ W ⟨.slice A n c, 71, 2, n, cs⟩) : OwnS xs n₀ W (pairO (.slice A (hs ++ [h]).length c) (hs ++ [h])) := by
  subst hcs hn
  have e : pairO (.slice A (hs ++ [h]).length c) (hs ++ [h]) = ⟨.slice A (hs.length + 1) c, 71, 2, hs.length + 1, (hs.map pairC).flatten ++ pairC h⟩ := by
    unfold pairO; rw [flat_snoc, List.length_append]; rfl
  rw [e]; exact ho
set_option maxHeartbeats 8000000 in
theorem addhdr_x (line : List UInt8) (hl : line.length ≤ 90000) (hs : List PairS) (hhs : hs.length ≤ 100000) (m p : List UInt8) (q b : Value) (A : Option Addr) (c : Nat) (g : Nat) (W : PW) (hM : HM W) (hown : OwnB W g (reqC m p q (.slice A hs.length c) b))
    (ho : OwnS (pairO (.slice A hs.length c) hs).v.ownBlock.toList W.w.heap.size W (pairO (.slice A hs.length c) hs)) (hne : g ∉ (pairO (.slice A hs.length c) hs).v.ownBlock.toList) :
    CallsX Tryd.prog 60 ⟨[.pointer (some ⟨g, 0, none⟩), strV line]⟩ (g :: (pairO (.slice A hs.length c) hs).v.ownBlock.toList) W fun v W' => HdrR W' W.w.heap.size (pairO (.slice A hs.length c) hs).v.ownBlock.toList g m p q b hs A c v (headerS line) := by
  have hmax : (100000000 : Nat) ≤ maxLen := by decide
  refine methOX (o := pairO (.slice A hs.length c) hs) hmix Tryd.func60 r60 (by kernel_rfl) hown ho hne [strV line] rfl ?_
  refine call_v rfl (fun W' lw => cutg_x line 58 (by omega) W' (hM.mono lw)) (fun W1 u W2 l1 l2 hu => ?_)
  have hcl := cutW_len 58 line
  have hH : headerS line = if 58 ∈ line ∧ allB 40 namedB (cutW 58 line).1 = true ∧ ((cutW 58 line).2 = [] ∨ allB 2048 valuedB (cutW 58 line).2 = true)
    then some ⟨(cutW 58 line).1.map lowC, Lib.trimS (cutW 58 line).2 [32, 9]⟩ else none := rfl
  obtain ⟨n, hn⟩ : ∃ y, (cutW 58 line).1 = y := ⟨_, rfl⟩
  obtain ⟨val, hval⟩ : ∃ y, (cutW 58 line).2 = y := ⟨_, rfl⟩
  rw [hn, hval] at hu hcl hH
  subst hu
  have bad : headerS line = none → ∀ W', OwnB W' g (reqC m p q (.slice A hs.length c) b) → OwnS (pairO (.slice A hs.length c) hs).v.ownBlock.toList W.w.heap.size W' (pairO (.slice A hs.length c) hs) →
      HdrR W' W.w.heap.size (pairO (.slice A hs.length c) hs).v.ownBlock.toList g m p q b hs A c (.bool false) (headerS line) := fun hf W' h1 h2 => by rw [hf]; exact ⟨rfl, h1, h2⟩
  refine ⟨_, rfl, _, rfl, _, rfl, br_nsplit (fun hc => ?_) (fun hc => ?_)⟩
  · have hc : ¬ 58 ∈ line := hc
    have hf : headerS line = none := by rw [hH, if_neg (fun e => hc e.1)]
    exact ret_m1own (i := 0) rfl rfl rfl rfl rfl rfl fun W' _ h1 h2 => bad hf W' h1 h2
  have hc : 58 ∈ line := hc
  refine call_v rfl (fun W' _ => all_x n 40 102 namedB (fun c W' => named_x c W') (by omega) W') (fun W3 x W4 l3 l4 hx => ?_)
  obtain ⟨b1, hb1, rfl⟩ : ∃ y, allB 40 namedB n = y ∧ x = .bool y := ⟨_, rfl, hx⟩
  refine br_nsplit' (fun e => ?_) (fun e => ?_)
  · subst e
    have hf : headerS line = none := by rw [hH, if_neg (fun e => by rw [hb1] at e; cases e.2.1)]
    exact ret_m1own (i := 0) rfl rfl rfl rfl rfl rfl fun W' _ h1 h2 => bad hf W' h1 h2
  subst e
  apply br_nsplit
  case' h1 =>
    intro h0
    have h0 : ¬ val = [] := h0
    refine call_v rfl (fun W' _ => all_x val 2048 103 valuedB (fun c W' => valued_x c W') (by omega) W') (fun W5 x W6 l5 l6 hx => ?_)
    obtain ⟨b2, hb2, rfl⟩ : ∃ y, allB 2048 valuedB val = y ∧ x = .bool y := ⟨_, rfl, hx⟩
    refine br_nsplit' (fun e => ?_) (fun e => ?_)
    · subst e
      have hf : headerS line = none := by rw [hH, if_neg (fun e => e.2.2.elim h0 (fun e => by rw [hb2] at e; cases e))]
      exact ret_m1own (i := 0) rfl rfl rfl rfl rfl rfl fun W' _ h1 h2 => bad hf W' h1 h2
    subst e
    rw [if_pos ⟨hc, hb1, .inr hb2⟩] at hH
  case' h2 =>
    intro h0
    have h0 : val = [] := h0
    rw [if_pos ⟨hc, hb1, .inl h0⟩] at hH
  all_goals
    refine call_v rfl (fun W' _ => lower_x n (by omega) W') (fun W7 x W8 l7 l8 hx => ?_)
    obtain ⟨ln, hln, rfl⟩ : ∃ y, n.map lowC = y ∧ x = strV y := ⟨_, rfl, hx⟩
    refine call_v rfl (fun W' _ => trimw_x val (by omega) W') (fun W9 x W10 l9 l10 hx => ?_)
    obtain ⟨tv, htv, rfl⟩ : ∃ y, Lib.trimS val [32, 9] = y ∧ x = strV y := ⟨_, rfl, hx⟩
    rw [hln, htv] at hH
    refine ⟨rfl, .inl fun g1 W11 l11 hr => ⟨0, _, pairC ⟨ln, tv⟩, rfl, rfl, rfl, rfl, rfl, pairC_one _, fun _ => ⟨_, rfl, hr.o⟩, by show hs.length + 1 ≤ _; omega, by show (hs.length + 1) * 32 ≤ _; omega, rfl, @fun A' c' _ => ?_⟩⟩
    refine ret_m1own (i := 0) rfl rfl rfl rfl rfl rfl fun W' l' hwb hwo => ?_
    rw [hH]
    refine ⟨rfl, A', c', ?_, own_pair rfl rfl hwo⟩
    rw [List.length_append]; exact hwb

def LenR (v : Value) (r : Option Int) : Prop :=
  match r with
  | some n => v = .tuple ⟨[.int .i64 n, .bool true]⟩
  | none => ∃ n, v = .tuple ⟨[.int .i64 n, .bool false]⟩
set_option maxHeartbeats 4000000 in
theorem length_x (hs : List PairS) (m p : List UInt8) (hl : hs.length ≤ 100000) (q u b : Value) (g : Nat) (W : PW) (hE : HE W) (hg : Rds W ⟨g, 0, none⟩ (reqC m p q u b)) (h : RP pairC W u hs) (hv : (hdrS hs clenN).1.length ≤ 1000000) :
    CallsX Tryd.prog 61 ⟨[.pointer (some ⟨g, 0, none⟩)]⟩ [] W fun v _ => LenR v (lengthS hs) := by
  refine pureX hmix Tryd.func61 r61 (by kernel_rfl) [.pointer (some ⟨g, 0, none⟩)] rfl ?_
  have hL : lengthS hs = if ¬ (hdrF hs hostN).2 = 1 ∨ 0 < (hdrF hs teN).2 ∨ 1 < (hdrF hs clenN).2 then none
    else if (hdrS hs clenN).2 = false then some 0
    else match atoiN (hdrS hs clenN).1 with | some n => if allB 9 digitB (hdrS hs clenN).1 = true then some n else none | none => none := rfl
  obtain ⟨n1, hn1⟩ : ∃ y, (hdrF hs hostN).2 = y := ⟨_, rfl⟩
  obtain ⟨n2, hn2⟩ : ∃ y, (hdrF hs teN).2 = y := ⟨_, rfl⟩
  obtain ⟨n3, hn3⟩ : ∃ y, (hdrF hs clenN).2 = y := ⟨_, rfl⟩
  obtain ⟨r, hr⟩ : ∃ y, hdrS hs clenN = y := ⟨_, rfl⟩
  rw [hn1, hn2, hn3, hr] at hL
  rw [hr] at hv
  have bad : lengthS hs = none → LenR (.tuple ⟨[.int .i64 0, .bool false]⟩) (lengthS hs) := fun hf => by rw [hf]; exact ⟨_, rfl⟩
  refine call_v rfl (fun W' lw => count_x hs hostN m p (by omega) q u b g W' (hg.mono lw) (h.mono lw)) (fun W1 x W2 l1 l2 hx => ?_)
  rw [hn1] at hx
  subst hx
  have lA := l1.trans l2
  refine ⟨rfl, br_nsplit (fun e => ?_) (fun e => ?_)⟩
  · have e : ¬ (n1 : Int) = 1 := e
    have hf : lengthS hs = none := by rw [hL, if_pos (.inl (by omega))]
    exact ret_plain rfl fun _ _ => bad hf
  have e1 : (n1 : Int) = 1 := e
  refine call_v rfl (fun W' lw => count_x hs teN m p (by omega) q u b g W' (hg.mono (lA.trans lw)) (h.mono (lA.trans lw))) (fun W3 x W4 l3 l4 hx => ?_)
  rw [hn2] at hx
  subst hx
  have lB := lA.trans (l3.trans l4)
  refine ⟨rfl, ?_⟩
  apply br_split
  · intro e
    have e : (0 : Int) < (n2 : Int) := e
    have hf : lengthS hs = none := by rw [hL, if_pos (.inr (.inl (by omega)))]
    exact ret_plain rfl fun _ _ => bad hf
  intro e
  have e2 : ¬ (0 : Int) < (n2 : Int) := e
  refine call_v rfl (fun W' lw => count_x hs clenN m p (by omega) q u b g W' (hg.mono (lB.trans lw)) (h.mono (lB.trans lw))) (fun W5 x W6 l5 l6 hx => ?_)
  rw [hn3] at hx
  subst hx
  have lC := lB.trans (l5.trans l6)
  refine ⟨rfl, ?_⟩
  apply br_split
  · intro e
    have e : (1 : Int) < (n3 : Int) := e
    have hf : lengthS hs = none := by rw [hL, if_pos (.inr (.inr (by omega)))]
    exact ret_plain rfl fun _ _ => bad hf
  intro e
  have e3 : ¬ (1 : Int) < (n3 : Int) := e
  rw [if_neg (by omega)] at hL
  refine ⟨reqC m p q u b, rfl, (hg.mono lC).o, ?_⟩
  refine call_v rfl (fun W' lw => header_x hs clenN m p (by omega) q u b W' (h.mono (lC.trans lw))) (fun W7 x W8 l7 l8 hx => ?_)
  rw [hr] at hx
  obtain ⟨s, ok⟩ := r
  dsimp only at hx hL hv
  subst hx
  have lD := lC.trans (l7.trans l8)
  refine ⟨_, rfl, _, rfl, br_nsplit' (fun e => ?_) (fun e => ?_)⟩
  · subst e
    rw [if_pos rfl] at hL
    exact ret_plain rfl fun _ _ => by rw [hL]; exact rfl
  subst e
  rw [if_neg (by decide)] at hL
  refine call_v rfl (fun W' lw => atoi_x s hv W' (hE.mono (lD.trans lw))) (fun W9 x W10 l9 l10 hx => ?_)
  unfold AtoiR at hx
  cases ha : atoiN s with
  | none =>
    rw [ha] at hx hL
    obtain ⟨n, t, z, rfl⟩ := hx
    refine ⟨_, rfl, _, rfl, ?_⟩
    refine raw_eqnil_f (by kernel_rfl) rfl rfl ?_
    exact ret_plain rfl fun _ _ => by rw [hL]; exact ⟨_, rfl⟩
  | some n =>
    rw [ha] at hx hL
    dsimp only at hx hL
    subst hx
    refine ⟨_, rfl, _, rfl, ?_⟩
    refine raw_eqnil_t (by kernel_rfl) rfl rfl ?_
    refine call_v rfl (fun W' _ => all_x s 9 108 digitB (fun c W' => digitk_x c W') hv W') (fun W11 x W12 l11 l12 hx => ?_)
    obtain ⟨b1, hb1, rfl⟩ : ∃ y, allB 9 digitB s = y ∧ x = .bool y := ⟨_, rfl, hx⟩
    rw [hb1] at hL
    cases b1 with
    | true =>
      rw [if_pos rfl] at hL
      exact ret_plain rfl fun _ _ => by rw [hL]; exact rfl
    | false =>
      rw [if_neg (by decide)] at hL
      exact ret_plain rfl fun _ _ => by rw [hL]; exact ⟨_, rfl⟩
end Go.Proofs.YtkhgmmejgikgnaaDoor
