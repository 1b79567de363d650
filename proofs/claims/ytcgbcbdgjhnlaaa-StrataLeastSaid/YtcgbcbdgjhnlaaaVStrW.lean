/- Layer 18 (strata), the document's walk over a relation's nodes. No statement is proved here. -/
import Derived.Test.YtcgbcbdgjhnlaaaVStrV
namespace Go.Proofs.Ytcgbcbdgjhnlaaa
open Go.RowKit

def WalkC (t : Tr) : Prop := ∀ (l : List NameD) (f : Nat) (x : NameD) (m : Nat) (ab : Bool) (u : Value) (W : PW), l[f]? = some x → AtT x.2.nodes m t → (∀ x ∈ l, x.2.types.length ≤ 1000 ∧ x.2.nodes.length ≤ 1000) → l.length ≤ 1000000 → RL nameR 4 W u l →
  CallsX Try.prog 119 ⟨[u, .int .i64 f, .int .i64 (((m + t.size : Nat) : Int) - 1), .bool ab]⟩ [] W fun v W' => ∃ y, v = .tuple ⟨[y, .bool (walkT l f t ab).2]⟩ ∧ RP deC W' y (walkT l f t ab).1
theorem deC_one (e : DE) : ∀ u ∈ deC e, u.oneCell' = true := by
  intro u hu
  simp only [deC, List.mem_cons, List.not_mem_nil, or_false] at hu
  rcases hu with rfl | rfl | rfl <;> rfl
def edO (A : Option Addr) (n c : Nat) (es : List DE) : Own := ⟨.slice A n c, 109, 3, n, (es.map deC).flatten⟩
/-- The relation, its node. -/
theorem walk_pre {l : List NameD} {f : Nat} {x : NameD} {m : Nat} {t : Tr} {u : Value} {W : PW} (hx : l[f]? = some x) (ha : AtT x.2.nodes m t) (hu : RL nameR 4 W u l) :
    ∃ pc c, u = .slice (some pc) l.length c ∧ ∃ ta tc pn nc, RP typC W (.slice ta x.2.types.length tc) x.2.types ∧
      Rd W ((pc.add ((f : Int).toNat * 4)).add 0) (strV x.1) ∧ Rd W (((pc.add ((f : Int).toNat * 4)).add 1).add 1) (.slice ta x.2.types.length tc) ∧ Rd W (((pc.add ((f : Int).toNat * 4)).add 1).add 2) (.slice (some pn) x.2.nodes.length nc) ∧
      (0 ≤ ((m + t.size : Nat) : Int) - 1 ∧ ((m + t.size : Nat) : Int) - 1 < x.2.nodes.length) ∧ Rds W (pn.add ((((m + t.size : Nat) : Int) - 1).toNat * 5)) (nodeC (rootT m t)) := by
  obtain ⟨a1, c1, rfl, _, _⟩ := hu.form
  have hf : f < l.length := (List.getElem?_eq_some_iff.1 hx).1
  obtain ⟨pc, rfl, y, cs, hy, _, ⟨tv, nv, hcs, hT, hN⟩, hall, _⟩ := hu.at nameR.mono (PW.Le.refl _) (j := (f : Int)) ⟨by omega, by omega⟩
  have hy : l[f]? = some y := hy
  rw [hx] at hy
  obtain rfl := Option.some.inj hy
  subst hcs
  obtain ⟨ta, tc, rfl, _, _⟩ := hT.form
  obtain ⟨na, nc, rfl, _, _⟩ := hN.form
  have hp := t.size_pos
  have hln := ha.len
  obtain ⟨pn, rfl, n, hn, _, _, hrds⟩ := hN.at (sz := 5) (fun _ => rfl) (PW.Le.refl _) (j := ((m + t.size : Nat) : Int) - 1) ⟨by omega, by omega⟩
  have hn : x.2.nodes[m + t.size - 1]? = some n := by rw [← hn]; congr 1; omega
  rw [ha.root] at hn
  obtain rfl := Option.some.inj hn
  exact ⟨pc, c1, rfl, ta, tc, pn, nc, hT, hall 0 _ rfl, by rw [Addr.add_add]; exact hall 2 _ rfl, by rw [Addr.add_add]; exact hall 3 _ rfl, ⟨by omega, by omega⟩, hrds⟩
set_option maxHeartbeats 4000000 in
theorem walk_rel (w : List UInt8) : WalkC (.rel w) := by
  intro l f x m ab u W hx ha hb hl hu
  obtain ⟨pc, c, rfl, ta, tc, pn, nc, hT, h0, _, h2, hi, hrds⟩ := walk_pre hx ha hu
  have hf : f < l.length := (List.getElem?_eq_some_iff.1 hx).1
  have hmax : (10000000 : Nat) ≤ maxLen := by decide
  have hsp : spAt l f = x.1 := by unfold spAt; rw [hx]; rfl
  refine pureNX hmix Try.func119 r119 (by kernel_rfl) [nilO 109 3] rfl [.slice (some pc) l.length c, .int .i64 f, .int .i64 (((m + (Tr.rel w).size : Nat) : Int) - 1), .bool ab] rfl ?_
  obtain ⟨at_, hat⟩ : ∃ z, ((m + (Tr.rel w).size : Nat) : Int) - 1 = z := ⟨_, rfl⟩
  rw [hat] at hi hrds ⊢
  have hrds : Rds W (pn.add (at_.toNat * 5)) [.int .i64 2, strV w, strV [], .int .i64 0, .int .i64 0] := hrds
  refine ⟨⟨by omega, by omega⟩, pc, rfl, .slice (some pn) x.2.nodes.length nc, h2.o, hi, pn, rfl, [.int .i64 2, strV w, strV [], .int .i64 0, .int .i64 0], rfl, hrds.o, ?_⟩
  refine ⟨rfl, rfl, rfl, rfl, ⟨by omega, by omega⟩, pc, rfl, strV x.1, h0.o, ?_⟩
  refine call_v rfl (fun W' lw => findd_x l x.1 w _ W' hl (hu.mono nameR.mono lw)) (fun W1 v W2 l1 l2 hv => ?_)
  obtain ⟨z, hz, rfl⟩ : ∃ z, findD l x.1 w = z ∧ v = .int .i64 z := ⟨_, rfl, hv⟩
  have hw : walkT l f (.rel w) ab = ([⟨f, z, ab⟩], decide (0 ≤ z)) := by show ([(⟨f, findD l (spAt l f) w, ab⟩ : DE)], decide (0 ≤ findD l (spAt l f) w)) = _; rw [hsp, hz]
  rw [hw]
  refine ⟨rfl, .inl ?_⟩
  intro bd Wd ld hrd
  refine ⟨0, _, [.int .i64 f, .int .i64 z, .bool ab], rfl, rfl, rfl, rfl, rfl, deC_one ⟨f, z, ab⟩, fun _ => ⟨_, rfl, hrd.o⟩, by show 0 + 1 ≤ maxLen; omega, by decide, rfl, @fun Ae ce _ => ?_⟩
  refine ⟨rfl, ?_⟩
  refine RetVC.freeze (i := 0) (fun _ hb => hb) rfl fun W3 l3 hfr => ?_
  exact ret_plain rfl fun W4 l4 => ⟨_, rfl, SlRead.mono hfr l4⟩

theorem slR {W : PW} {A : Option Addr} {n c : Nat} {cs : List Value} {es : List DE} (h : SlRead W (.slice A n c) n cs) (hn : n = es.length) (hc : cs = (es.map deC).flatten) : RP deC W (.slice A n c) es := by
  subst hn hc; exact h
set_option maxHeartbeats 8000000 in
theorem walk_op (k : Nat) (a b : Tr) (hk : k = 4 ∨ k = 5 ∨ k = 6) (iha : WalkC a) (ihb : WalkC b) : WalkC (.op k a b) := by
  intro l f x m ab u W hx ha hb hl hu
  obtain ⟨pc, c, rfl, ta, tc, pn, nc, hT, h0, _, h2, hi, hrds⟩ := walk_pre hx ha hu
  have hf : f < l.length := (List.getElem?_eq_some_iff.1 hx).1
  have hmax : (10000000 : Nat) ≤ maxLen := by decide
  have hla := ha.left
  have hra := ha.right
  have e1 := walkT_len (fun x hx => (hb x hx).1) f a ab
  have e2 := walkT_len (fun x hx => (hb x hx).1) f b (ab || decide (k = 6))
  have hsz : m + (a.size + b.size + 1) ≤ x.2.nodes.length := ha.len
  have hnl := (hb x (List.mem_of_getElem? hx)).2
  refine pureNX hmix Try.func119 r119 (by kernel_rfl) [nilO 109 3] rfl [.slice (some pc) l.length c, .int .i64 f, .int .i64 (((m + (Tr.op k a b).size : Nat) : Int) - 1), .bool ab] rfl ?_
  obtain ⟨at_, hat⟩ : ∃ z, ((m + (Tr.op k a b).size : Nat) : Int) - 1 = z := ⟨_, rfl⟩
  rw [hat] at hi hrds ⊢
  have hw : walkT l f (.op k a b) ab = ((walkT l f a ab).1 ++ (walkT l f b (ab || decide (k = 6))).1, (walkT l f a ab).2 && (walkT l f b (ab || decide (k = 6))).2) := rfl
  rw [hw]
  obtain ⟨ab2, hab2⟩ : ∃ y, (ab || decide (k = 6)) = y := ⟨_, rfl⟩
  rw [hab2] at e2 ⊢
  have iha := iha l f x m ab
  have ihb := ihb l f x (m + a.size) ab2
  obtain ⟨R1, hR1⟩ : ∃ y, walkT l f a ab = y := ⟨_, rfl⟩
  obtain ⟨R2, hR2⟩ : ∃ y, walkT l f b ab2 = y := ⟨_, rfl⟩
  rw [hR1] at e1 iha ⊢
  rw [hR2] at e2 ihb ⊢
  obtain ⟨na, hna⟩ : ∃ z, ((m + a.size : Nat) : Int) - 1 = z := ⟨_, rfl⟩
  obtain ⟨nb, hnb⟩ : ∃ z, ((m + a.size + b.size : Nat) : Int) - 1 = z := ⟨_, rfl⟩
  rw [hna] at iha
  rw [hnb] at ihb
  have hrds : Rds W (pn.add (at_.toNat * 5)) [.int .i64 k, strV [], strV [], .int .i64 (((m + a.size : Nat) : Int) - 1), .int .i64 (((m + a.size + b.size : Nat) : Int) - 1)] := hrds
  rw [hna, hnb] at hrds
  refine ⟨⟨by omega, by omega⟩, pc, rfl, .slice (some pn) x.2.nodes.length nc, h2.o, hi, pn, rfl, [.int .i64 k, strV [], strV [], .int .i64 na, .int .i64 nb], rfl, hrds.o, ?_⟩
  obtain ⟨E1, b1⟩ := R1
  obtain ⟨E2, b2⟩ := R2
  dsimp only at e1 e2 iha ihb ⊢
  rcases hk with rfl | rfl | rfl
  case' inl => refine ⟨rfl, ?_⟩
  case' inr.inl => refine ⟨rfl, rfl, ?_⟩
  case' inr.inr => refine ⟨rfl, rfl, rfl, ?_⟩
  all_goals
    refine call_v rfl (fun W' lw => iha _ W' hx hla hb hl (hu.mono nameR.mono lw)) (fun W1 v W2 l1 l2 hv => ?_)
    obtain ⟨y1, rfl, hy1⟩ := hv
    obtain ⟨A1, c1, rfl, _, _⟩ := hy1.form
    refine ⟨_, rfl, _, rfl, ?_⟩
    have l12 := l1.trans l2
    cases ab
  case' inl.false => (obtain rfl : false = ab2 := hab2; refine ⟨rfl, ?_⟩)
  case' inl.true => obtain rfl : true = ab2 := hab2
  case' inr.inl.false => (obtain rfl : false = ab2 := hab2; refine ⟨rfl, ?_⟩)
  case' inr.inl.true => obtain rfl : true = ab2 := hab2
  case' inr.inr.false => (obtain rfl : true = ab2 := hab2; refine ⟨rfl, ?_⟩)
  case' inr.inr.true => obtain rfl : true = ab2 := hab2
  all_goals
    refine call_v rfl (fun W' lw => ihb _ W' hx hra hb hl (hu.mono nameR.mono (l12.trans lw))) (fun W3 v W4 l3 l4 hv => ?_)
    obtain ⟨y2, rfl, hy2⟩ := hv
    obtain ⟨A2, c2, rfl, _, _⟩ := hy2.form
    have hy1 := hy1.mono (l3.trans l4)
    refine ⟨_, rfl, _, rfl, 0, _, (E1.map deC).flatten, rfl, rfl, rfl, rfl, len_flat (f := deC) (sz := 3) (fun _ => rfl) E1, one_flat deC_one E1, fun hp => ?_, by show 0 + E1.length ≤ maxLen; omega, by show (0 + E1.length) * 24 ≤ 140737488355328; omega, rfl, @fun A3 c3 _ => ?_⟩
    · obtain ⟨_, _, he, _, _, hr⟩ := hy1
      obtain ⟨a', ha', hrd⟩ := hr hp
      simp only [Value.slice.injEq] at he
      exact ⟨a', he.1.trans ha', hrd.o⟩
    refine ⟨0, _, (E2.map deC).flatten, rfl, rfl, rfl, rfl, len_flat (f := deC) (sz := 3) (fun _ => rfl) E2, one_flat deC_one E2, fun hp => ?_, by show 0 + E1.length + E2.length ≤ maxLen; omega, by show (0 + E1.length + E2.length) * 24 ≤ 140737488355328; omega, rfl, @fun A4 c4 _ => ?_⟩
    · obtain ⟨_, _, he, _, _, hr⟩ := hy2
      obtain ⟨a', ha', hrd⟩ := hr hp
      simp only [Value.slice.injEq] at he
      exact ⟨a', he.1.trans ha', hrd.o⟩
    cases b1
  all_goals
    refine RetVC.freeze (i := 0) (fun _ hb => hb) rfl fun W5 l5 hfr => ?_
    refine ret_plain rfl fun W6 l6 => ⟨_, rfl, ?_⟩
    have h7 := SlRead.mono hfr l6
    refine slR (A := A4) (c := c4) h7 ?_ ?_
    · show 0 + E1.length + E2.length = _; rw [List.length_append, Nat.zero_add]
    · show ([] ++ (E1.map deC).flatten) ++ (E2.map deC).flatten = _; rw [List.map_append, List.flatten_append, List.nil_append]

structure LfSt where
  i : Nat
  n : Nat
  A : Option Addr
  c : Nat
  es : List DE
  ok : Bool
theorem leafD_step {l : List NameD} {f : Nat} {ab : Bool} {thn : List UInt8} {ts : List TypS} {i : Nat} {t : TypS} (h : ts[i]? = some t) : leafD l f ab thn (ts.take (i + 1)) = leafD l f ab thn (ts.take i) ++ (if t.space = [] then [] else [⟨f, findD l t.space (keyT thn t), ab⟩]) := by
  unfold leafD
  rw [setsS_take h, List.map_append]
  congr 1
  by_cases e : t.space = [] <;> simp [e]
theorem leafD_le (l : List NameD) (f : Nat) (ab : Bool) (thn : List UInt8) (ts : List TypS) (i : Nat) : (leafD l f ab thn (ts.take i)).length ≤ i := by
  unfold leafD
  rw [List.length_map]
  exact Nat.le_trans (setsS_le _) (by rw [List.length_take]; omega)
theorem okD_snoc (es : List DE) (e : DE) : okD (es ++ [e]) = (okD es && decide (0 ≤ e.t)) := by unfold okD; rw [List.all_append, List.all_cons, List.all_nil, Bool.and_true]
theorem name_types {l : List NameD} {z : Int} {pc : Addr} {c : Nat} {W : PW} (hz : 0 ≤ z ∧ z < l.length) (hu : RL nameR 4 W (.slice (some pc) l.length c) l) :
    ∃ y, l[z.toNat]? = some y ∧ ∃ ya yc, RP typC W (.slice ya y.2.types.length yc) y.2.types ∧ Rd W (((pc.add (z.toNat * 4)).add 1).add 1) (.slice ya y.2.types.length yc) := by
  obtain ⟨pc2, e, y, cs, hy, _, ⟨tv, nv, hcs, hT, hN⟩, hall, _⟩ := hu.at nameR.mono (PW.Le.refl _) (j := z) hz
  obtain rfl : pc = pc2 := Option.some.inj e
  subst hcs
  obtain ⟨ta, tc, rfl, _, _⟩ := hT.form
  exact ⟨y, hy, ta, tc, hT, by rw [Addr.add_add]; exact hall 2 _ rfl⟩
set_option maxRecDepth 20000 in
set_option maxHeartbeats 16000000 in
theorem walk_leaf (t : Tr) (ht : t = .this ∨ ∃ w v, t = .arrow w v ∧ v ≠ []) : WalkC t := by
  intro l f x m ab u W hx ha hb hl hu
  obtain ⟨pc, c, rfl, ta, tc, pn, nc, hT, h0, h1, h2, hi, hrds⟩ := walk_pre hx ha hu
  have hf : f < l.length := (List.getElem?_eq_some_iff.1 hx).1
  have hmax : (10000000 : Nat) ≤ maxLen := by decide
  have hsp : spAt l f = x.1 := by unfold spAt; rw [hx]; rfl
  have hty : typesAt l f = x.2.types := by unfold typesAt; rw [hx]; rfl
  refine pureNX hmix Try.func119 r119 (by kernel_rfl) [nilO 109 3] rfl [.slice (some pc) l.length c, .int .i64 f, .int .i64 (((m + t.size : Nat) : Int) - 1), .bool ab] rfl ?_
  obtain ⟨at_, hat⟩ : ∃ z, ((m + t.size : Nat) : Int) - 1 = z := ⟨_, rfl⟩
  rw [hat] at hi hrds ⊢
  refine vc_assoc (vc_assoc (vc_assoc (vc_assoc (vc_assoc (vc_assoc (vc_cut (fun f' S' => ∃ (ts : List TypS) (thn : List UInt8) (tA : Option Addr) (tC : Nat) (σ : List (List PV)) (W2 : PW), S' = ⟨σ, [nilO 109 3], W2⟩ ∧ allVals σ = true ∧ W.Le W2 ∧ ts.length ≤ 1000 ∧ RP typC W2 (.slice tA ts.length tC) ts ∧ walkT l f t ab = leafR l f ab thn ts ∧ AllSl f' [(0, .v (.slice (some pc) l.length c)), (1, .v (.int .i64 f)), (3, .v (.bool ab)), (10, .v (.slice none 0 0)), (17, .v (.slice tA ts.length tC)), (18, .v (strV thn))]) ?_ ?_))))))
  · rcases ht with rfl | ⟨w, v, rfl, hv⟩
    · have hrds : Rds W (pn.add (at_.toNat * 5)) [.int .i64 1, strV [], strV [], .int .i64 0, .int .i64 0] := hrds
      refine ⟨⟨by omega, by omega⟩, pc, rfl, .slice (some pn) x.2.nodes.length nc, h2.o, hi, pn, rfl, [.int .i64 1, strV [], strV [], .int .i64 0, .int .i64 0], rfl, hrds.o, ?_⟩
      refine ⟨rfl, rfl, rfl, rfl, ⟨by omega, by omega⟩, pc, rfl, .slice ta x.2.types.length tc, h1.o, ?_⟩
      exact ⟨rfl, x.2.types, [], ta, tc, _, W, rfl, rfl, PW.Le.refl _, (hb x (List.mem_of_getElem? hx)).1, hT, by show leafR l f ab [] (typesAt l f) = _; rw [hty], ⟨rfl, rfl, rfl, rfl, rfl, rfl, trivial⟩⟩
    · have hrds : Rds W (pn.add (at_.toNat * 5)) [.int .i64 3, strV w, strV v, .int .i64 0, .int .i64 0] := hrds
      refine ⟨⟨by omega, by omega⟩, pc, rfl, .slice (some pn) x.2.nodes.length nc, h2.o, hi, pn, rfl, [.int .i64 3, strV w, strV v, .int .i64 0, .int .i64 0], rfl, hrds.o, ?_⟩
      refine ⟨rfl, rfl, rfl, rfl, ⟨by omega, by omega⟩, pc, rfl, .slice ta x.2.types.length tc, h1.o, ?_⟩
      refine ⟨rfl, ⟨by omega, by omega⟩, pc, rfl, strV x.1, h0.o, ?_⟩
      refine call_v rfl (fun W' lw => findd_x l x.1 w _ W' hl (hu.mono nameR.mono lw)) (fun W1 v1 W2 l1 l2 hv1 => ?_)
      obtain ⟨z, hz, rfl⟩ : ∃ z, findD l x.1 w = z ∧ v1 = .int .i64 z := ⟨_, rfl, hv1⟩
      have hwk : walkT l f (.arrow w v) ab = if z < 0 then ([], false) else leafR l f ab v (typesAt l z.toNat) := by
        show (if findD l (spAt l f) w < 0 then (([], false) : List DE × Bool) else leafR l f ab v (typesAt l (findD l (spAt l f) w).toNat)) = _
        rw [hsp, hz]
      refine ⟨rfl, ?_⟩
      apply br_split
      · intro h
        have h : z < 0 := h
        rw [if_pos h] at hwk
        exact ret_plain rfl fun W' _ => by rw [hwk]; exact ⟨_, rfl, SlRead.nil W' _⟩
      · intro h
        have h : ¬ z < 0 := h
        rw [if_neg h] at hwk
        have hzl : 0 ≤ z ∧ z < l.length := by
          rcases findD_in l x.1 w with e | ⟨i, y, e, hy, _⟩
          · omega
          · have := (List.getElem?_eq_some_iff.1 hy).1
            omega
        have l12 := l1.trans l2
        obtain ⟨y, hy, ya, yc, hY, hrY⟩ := name_types hzl (hu.mono nameR.mono l12)
        have hty2 : typesAt l z.toNat = y.2.types := by unfold typesAt; rw [hy]; rfl
        rw [hty2] at hwk
        refine ⟨hzl, pc, rfl, .slice ya y.2.types.length yc, hrY.o, ?_⟩
        exact ⟨y.2.types, v, ya, yc, _, W2, rfl, rfl, l12, (hb y (List.mem_of_getElem? hy)).1, hY, hwk, ⟨rfl, rfl, rfl, rfl, rfl, rfl, trivial⟩⟩
  rintro f' S' ⟨ts, thn, tA, tC, σ, W2, rfl, hσ, l02, hts, hT2, hw, hfr⟩
  refine vc_at _ hfr ?_
  clear hfr hT h0 h1 h2 hrds
  refine ⟨LfSt, fun t => [(20, .v (.bool t.ok)), (10, .v (.slice t.A t.n t.c)), (21, .v (.int .i64 t.i))], fun _ => σ, fun t => [edO t.A t.n t.c t.es], fun t _ => t.i ≤ ts.length ∧ t.n = t.es.length ∧ t.es = leafD l f ab thn (ts.take t.i) ∧ t.ok = okD t.es, fun t => ts.length - t.i, ⟨0, 0, none, 0, [], true⟩,
    all_sl ⟨rfl, rfl, rfl, trivial⟩, rfl, ole_refl _, ⟨Nat.zero_le _, rfl, rfl, rfl⟩, loopOK (fun _ => ⟨⟨trivial, rfl⟩, ⟨trivial, rfl⟩, ⟨trivial, rfl⟩, trivial⟩) (fun _ => rfl) (fun _ => hσ), ?_⟩
  rintro ⟨i, n, A, d, es, ok⟩ W3 l3 ⟨hi2, hn, hes, hok⟩ fr
  dsimp only at hi2 hn hes hok
  have hni : n ≤ i := by rw [hn, hes]; exact leafD_le l f ab thn ts i
  refine ⟨rfl, ?_⟩
  apply br_split
  · intro hq
    have hq : (i : Int) < ts.length := hq
    have inc := (i64_in ((i : Int) + 1) ⟨by omega, by omega⟩).symm
    obtain ⟨ta2, rfl, tx, hx2, _, _, hr⟩ := RP.at (f := typC) (sz := 2) (fun _ => rfl) hT2 l3 (j := (i : Int)) ⟨by omega, by omega⟩
    have hx2 : ts[i]? = some tx := hx2
    have hnext := leafD_step (l := l) (f := f) (ab := ab) (thn := thn) hx2
    obtain ⟨xs, xr⟩ := tx
    refine ⟨⟨by omega, hq⟩, ta2, rfl, strV xs, (hr 0 _ rfl).o, ?_⟩
    apply br_split
    · intro hs
      have hs : xs = [] := hs
      rw [if_pos (show (TypS.mk xs xr).space = [] from hs), List.append_nil] at hnext
      exact ⟨rfl, _, inc, ⟨i + 1, n, A, d, es, ok⟩, all_sl ⟨rfl, rfl, rfl, trivial⟩, List.take_length, ole_refl _, ⟨by dsimp only; omega, hn, by dsimp only; rw [hnext]; exact hes, hok⟩, by dsimp only; omega⟩
    · intro hs
      have hs : ¬ xs = [] := hs
      rw [if_neg (show ¬ (TypS.mk xs xr).space = [] from hs)] at hnext
      refine ⟨⟨by omega, hq⟩, ta2, rfl, strV xr, (hr 1 _ rfl).o, ?_⟩
      apply br_nsplit
      case' h1 =>
        intro ht
        have hk : keyT thn ⟨xs, xr⟩ = thn := if_neg ht
      case' h2 =>
        intro ht
        have hk : keyT thn ⟨xs, xr⟩ = xr := if_pos ht
      all_goals
        refine ⟨⟨by omega, hq⟩, ta2, rfl, strV xs, (hr 0 _ rfl).o, ?_⟩
        refine call_v rfl (fun W' lw => findd_x l xs _ _ W' hl (hu.mono nameR.mono (l02.trans (l3.trans lw)))) (fun W4 v4 W5 l4 l5 hv4 => ?_)
        obtain ⟨z, hz, rfl⟩ : ∃ z, findD l xs (keyT thn ⟨xs, xr⟩) = z ∧ v4 = .int .i64 z := ⟨_, rfl, by rw [hk]; exact hv4⟩
        rw [hz] at hnext
        cases ok
      case' h1.true => refine ⟨rfl, ?_⟩
      case' h2.true => refine ⟨rfl, ?_⟩
      all_goals
        refine ⟨rfl, .inl ?_⟩
        intro bd Wd ld hrd
        refine ⟨0, _, [.int .i64 f, .int .i64 z, .bool ab], rfl, rfl, rfl, rfl, rfl, deC_one ⟨f, z, ab⟩, fun _ => ⟨_, rfl, hrd.o⟩, by show n + 1 ≤ maxLen; omega, by show (n + 1) * 24 ≤ 140737488355328; omega, rfl, @fun Ae ce _ => ?_⟩
        refine ⟨rfl, _, inc, ⟨i + 1, n + 1, Ae, ce, es ++ [⟨f, z, ab⟩], _⟩, all_sl ⟨rfl, rfl, rfl, trivial⟩, List.take_length, ole_eq ?_, ⟨by dsimp only; omega, by dsimp only; rw [List.length_append, ← hn]; rfl, by dsimp only; rw [hnext, hes], ?_⟩, by dsimp only; omega⟩
        · have e : ((es ++ [(⟨f, z, ab⟩ : DE)]).map deC).flatten = (es.map deC).flatten ++ [.int .i64 f, .int .i64 z, .bool ab] := by rw [List.map_append, List.flatten_append, List.map_singleton, List.flatten_singleton]; rfl
          unfold edO
          dsimp only
          rw [e]
          rfl
        show _ = okD (es ++ [⟨f, z, ab⟩])
        rw [okD_snoc, ← hok]
        first | rfl | (rw [Bool.true_and]; rfl) | (rw [Bool.false_and]; rfl)
  · intro hq
    have hq : ¬ (i : Int) < ts.length := hq
    have ei : i = ts.length := by omega
    rw [ei, List.take_length] at hes
    have hw2 : walkT l f t ab = (es, ok && (decide (thn = []) || !decide (es = []))) := by
      rw [hw]
      unfold leafR
      rw [← hes, ← hok]
    have h0n : ¬ n = 0 ↔ ¬ es = [] := by rw [hn, ← List.length_eq_zero_iff]
    cases ok
    case' true =>
      apply br_split
      case' h1 =>
        intro ht
        have ht : thn = [] := ht
        have hb2 : (true && (decide (thn = []) || !decide (es = []))) = true := by rw [decide_eq_true ht]; rfl
      case' h2 =>
        intro ht
        have ht : ¬ thn = [] := ht
        have hb2 : (true && (decide (thn = []) || !decide (es = []))) = decide ((n : Int) > 0) := by
          rw [decide_eq_false ht, Bool.true_and, Bool.false_or, Bool.eq_iff_iff, decide_eq_true_eq, Bool.not_eq_true', decide_eq_false_iff_not, ← h0n]
          omega
        refine ⟨rfl, ?_⟩
    case' false =>
      have hb2 : (false && (decide (thn = []) || !decide (es = []))) = false := rfl
    all_goals
      rw [hb2] at hw2
      refine RetVC.freeze (i := 0) (fun _ hb => hb) rfl fun W6 l6 hfrz => ?_
      refine ret_plain rfl fun W7 l7 => ?_
      rw [hw2]
      exact ⟨_, rfl, slR (SlRead.mono hfrz l7) hn rfl⟩
theorem walk_all : ∀ t : Tr, t.ok → WalkC t
  | .this, _ => walk_leaf _ (.inl rfl)
  | .rel w, _ => walk_rel w
  | .arrow w v, h => walk_leaf _ (.inr ⟨w, v, rfl, by rintro rfl; exact absurd h.2 (by decide)⟩)
  | .op k a b, h => walk_op k a b h.1 (walk_all a h.2.1) (walk_all b h.2.2)
end Go.Proofs.Ytcgbcbdgjhnlaaa

