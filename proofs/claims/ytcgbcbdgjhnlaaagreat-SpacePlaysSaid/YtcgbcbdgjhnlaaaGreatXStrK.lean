/- Layer 18 (strata), the document's edges walked. No statement is proved here. -/
import Derived.Test.YtcgbcbdgjhnlaaaGreatXMG
namespace Go.Proofs.YtcgbcbdgjhnlaaaGreat
open Go.RowKit

theorem allP_mem {ss : List SpaceS} {x : NameD} (h : x ∈ allP ss) : ∃ s ∈ ss, x.2 ∈ s.rels := by
  unfold allP at h
  obtain ⟨s, hs, hx⟩ := List.mem_flatMap.1 h
  obtain ⟨r, hr, rfl⟩ := List.mem_map.1 hx
  exact ⟨s, hs, hr⟩
theorem allP_le {n : Nat} : ∀ {ss : List SpaceS}, (∀ s ∈ ss, s.rels.length ≤ n) → (allP ss).length ≤ ss.length * n
  | [], _ => Nat.zero_le _
  | s :: ss, h => by
    have h1 := allP_le fun s hs => h s (List.mem_cons_of_mem _ hs)
    have h2 := h s (List.mem_cons_self ..)
    rw [allP_cons, List.length_append, List.length_map, List.length_cons, Nat.add_mul]
    omega
theorem allD_good {c : ConfS} (hg : GoodC c) : (allD c).length ≤ 256 ∧ ∀ x ∈ allD c, GoodR x.2 := by
  refine ⟨?_, fun x hx => ?_⟩
  · have h1 := allP_le (n := 16) fun s hs => (hg.sp s hs).n
    have h2 := hg.n
    have h3 : (allD c).length ≤ c.spaces.length * 16 := h1
    omega
  · obtain ⟨s, hs, hr⟩ := allP_mem hx
    exact (hg.sp s hs).rels _ hr
theorem upD_succ {T : List NodeS → Tr} {l : List NameD} {i : Nat} {x : NameD} (h : l[i]? = some x) : upD T l (i + 1) = appD (upD T l i) ((walkT l i (T x.2.nodes) false).1, tyOK l x.2 && (walkT l i (T x.2.nodes) false).2) := by
  simp only [upD, h]
theorem upD_len {T : List NodeS → Tr} (hT : TreeF T) {l : List NameD} (hg : ∀ x ∈ l, GoodR x.2) : ∀ i : Nat, i ≤ l.length → (upD T l i).1.length ≤ i * 64000
  | 0, _ => Nat.le_refl _
  | i + 1, hi => by
    have hx : l[i]? = some l[i] := List.getElem?_eq_getElem hi
    have h1 := upD_len hT hg i (by omega)
    have h2 := walkT_len (l := l) (fun x hx => Nat.le_trans (hg x hx).tn (by decide)) i (T l[i].2.nodes) false
    have h3 := ((hg _ (List.getElem_mem hi)).tree hT).2.2.1
    rw [upD_succ hx]
    show ((upD T l i).1 ++ (walkT l i (T l[i].2.nodes) false).1).length ≤ _
    rw [List.length_append]
    omega
def tyq (l : List NameD) (t : TypS) : Bool := decide (t.space = []) || decide (0 ≤ findD l t.space t.rel)
theorem take_all_snoc {α : Type} (q : α → Bool) {l : List α} {i : Nat} {x : α} (h : l[i]? = some x) : (l.take (i + 1)).all q = ((l.take i).all q && q x) := by
  rw [List.take_add_one, h, Option.toList_some, List.all_append, List.all_cons, List.all_nil, Bool.and_true]

structure TqSt where
  k : Nat
  ok : Bool
set_option maxRecDepth 20000 in
set_option maxHeartbeats 16000000 in
theorem dedges_x {T : List NodeS → Tr} (hT : TreeF T) (x : ConfS) (cs : List Value) (W : PW) (hg : GoodC x) (hB : BdC x) (h : ConfR W x cs) : CallsX Tryz.prog 33 ⟨[.agg ⟨cs⟩]⟩ [] W fun v W' => ∃ y, v = .tuple ⟨[y, .bool (edgesD T x).2]⟩ ∧ RP deC W' y (edgesD T x).1 := by
  have hC := h
  obtain ⟨sv, kv, rfl, hS, hK⟩ := h
  obtain ⟨a1, c1, rfl, _, _⟩ := hS.form
  obtain ⟨a2, c2, rfl, _, _⟩ := hK.form
  obtain ⟨hl, hgl⟩ := allD_good hg
  have hm := hg.m
  refine pureNX hmix Tryz.func33 r33 (by kernel_rfl) [nilO 119 3] rfl [.agg ⟨[.slice a1 x.spaces.length c1, .slice a2 x.scopes.length c2]⟩] rfl ?_
  refine call_v rfl (fun W' lw => alld_x x _ W' hB (ConfR.mono _ _ _ _ lw hC)) (fun W1 v1 W2 l1 l2 hv1 => ?_)
  have hD : edgesD T x = ((upD T (allD x) (allD x).length).1, (upD T (allD x) (allD x).length).2 && x.scopes.all (scOKD (allD x))) := rfl
  obtain ⟨l, hall⟩ : ∃ l, allD x = l := ⟨_, rfl⟩
  obtain ⟨R, hR⟩ : ∃ R, edgesD T x = R := ⟨_, rfl⟩
  rw [hall] at hl hgl hv1 hD
  rw [hR] at hD
  obtain ⟨a3, c3, rfl, _, _⟩ := hv1.form
  have hbd : ∀ x ∈ l, x.2.types.length ≤ 1000 ∧ x.2.nodes.length ≤ 1000 := fun x hx => ⟨Nat.le_trans (hgl x hx).tn (by decide), Nat.le_trans (hgl x hx).nn (by decide)⟩
  refine ⟨LfSt, fun t => [(6, .v (.bool t.ok)), (5, .v (.slice t.A t.n t.c)), (7, .v (.int .i64 t.i))], fun _ => [[.v (.slice a1 x.spaces.length c1), .v (.slice a2 x.scopes.length c2)]], fun t => [edO t.A t.n t.c t.es], fun t _ => t.i ≤ l.length ∧ t.n = t.es.length ∧ (t.es, t.ok) = upD T l t.i, fun t => l.length - t.i, ⟨0, 0, none, 0, [], true⟩,
    all_sl ⟨rfl, rfl, rfl, trivial⟩, rfl, ole_refl _, ⟨Nat.zero_le _, rfl, rfl⟩, loopOK (fun _ => ⟨⟨trivial, rfl⟩, ⟨trivial, rfl⟩, ⟨trivial, rfl⟩, trivial⟩) (fun _ => rfl) (fun _ => rfl), ?_⟩
  rintro ⟨i, n, A, d, es, ok⟩ W3 l3 ⟨hi, hn, hup⟩ fr
  dsimp only at hi hn hup
  have hlen := upD_len hT hgl i hi
  rw [← hup] at hlen
  dsimp only at hlen
  refine ⟨rfl, ?_⟩
  apply br_split
  · intro hq
    have hq : (i : Int) < l.length := hq
    have inc := (i64_in ((i : Int) + 1) ⟨by omega, by omega⟩).symm
    obtain ⟨pc, rfl, y, ds, hy, _, ⟨tv, nv, hds, hTy, hNo⟩, hrd, hrds⟩ := hv1.at nameR.mono l3 (j := (i : Int)) ⟨by omega, hq⟩
    have hy : l[i]? = some y := hy
    have hgy := hgl y (List.mem_of_getElem? hy)
    have hsucc := upD_succ (T := T) hy
    obtain ⟨t1, t2, t3, _⟩ := hgy.tree hT
    have htn := hgy.tn
    obtain ⟨ys, yr⟩ := y
    obtain ⟨rn, rts, rns⟩ := yr
    dsimp only at hds hTy hNo htn t1 t2 t3 hsucc
    obtain ⟨tA, tC, rfl, _, _⟩ := hTy.form
    obtain ⟨nA, nC, rfl, _, _⟩ := hNo.form
    subst hds
    have hrds2 : Rds W3 ((pc.add ((i : Int).toNat * 4)).add 1) [strV rn, .slice tA rts.length tC, .slice nA rns.length nC] := fun j v hj => by have := hrds (1 + j) v (by rw [Nat.add_comm]; exact hj); rwa [← Addr.add_add] at this
    refine ⟨⟨by omega, hq⟩, pc, rfl, [strV rn, .slice tA rts.length tC, .slice nA rns.length nC], rfl, hrds2.o, ?_⟩
    refine ⟨TqSt, fun t => [(6, .v (.bool t.ok)), (9, .v (.int .i64 t.k))], fun _ => [[.v (.slice a1 x.spaces.length c1), .v (.slice a2 x.scopes.length c2)], [.v (strV rn), .v (.slice tA rts.length tC), .v (.slice nA rns.length nC)]], fun _ => [edO A n d es], fun t _ => t.k ≤ rts.length ∧ t.ok = (ok && (rts.take t.k).all (tyq l)), fun t => rts.length - t.k, ⟨0, ok⟩,
      all_sl ⟨rfl, rfl, trivial⟩, rfl, ole_refl _, ⟨Nat.zero_le _, by dsimp only; rw [List.take_zero, List.all_nil, Bool.and_true]⟩, loopOK (fun _ => ⟨⟨trivial, rfl⟩, ⟨trivial, rfl⟩, trivial⟩) (fun _ => rfl) (fun _ => rfl), ?_⟩
    rintro ⟨k, ok1⟩ W4 l4 ⟨hk, hok1⟩ fr2
    dsimp only at hk hok1
    refine ⟨rfl, ?_⟩
    apply br_split
    · intro hqk
      have hqk : (k : Int) < rts.length := hqk
      have inck := (i64_in ((k : Int) + 1) ⟨by omega, by omega⟩).symm
      obtain ⟨ta2, rfl, tx, hx2, _, _, hr⟩ := RP.at (f := typC) (sz := 2) (fun _ => rfl) hTy l4 (j := (k : Int)) ⟨by omega, by omega⟩
      have hx2 : rts[k]? = some tx := hx2
      have hsn := take_all_snoc (tyq l) hx2
      obtain ⟨xs, xr⟩ := tx
      cases ok1
      · refine ⟨rfl, _, inck, ⟨k + 1, false⟩, all_sl ⟨rfl, rfl, trivial⟩, rfl, ole_refl _, ⟨by dsimp only; omega, ?_⟩, by dsimp only; omega⟩
        show false = (ok && (rts.take (k + 1)).all (tyq l))
        rw [hsn, ← Bool.and_assoc, ← hok1]; rfl
      · refine ⟨⟨by omega, hqk⟩, ta2, rfl, strV xs, (hr 0 _ rfl).o, ?_⟩
        apply br_split
        · intro hs
          have hs : xs = [] := hs
          refine ⟨rfl, _, inck, ⟨k + 1, true⟩, all_sl ⟨rfl, rfl, trivial⟩, rfl, ole_refl _, ⟨by dsimp only; omega, ?_⟩, by dsimp only; omega⟩
          show true = (ok && (rts.take (k + 1)).all (tyq l))
          rw [hsn, ← Bool.and_assoc, ← hok1]
          show true = (true && (decide (xs = []) || decide (0 ≤ findD l xs xr)))
          rw [decide_eq_true hs]; rfl
        · intro hs
          have hs : ¬ xs = [] := hs
          refine ⟨⟨by omega, hqk⟩, ta2, rfl, strV xs, (hr 0 _ rfl).o, ⟨by omega, hqk⟩, ta2, rfl, strV xr, (hr 1 _ rfl).o, ?_⟩
          refine call_v rfl (fun W' lw => findd_x l xs xr _ W' (by omega) (hv1.mono nameR.mono (l3.trans (l4.trans lw)))) (fun W5 v5 W6 l5 l6 hv5 => ?_)
          obtain ⟨z, hz, rfl⟩ : ∃ z, findD l xs xr = z ∧ v5 = .int .i64 z := ⟨_, rfl, hv5⟩
          refine ⟨rfl, ?_⟩
          refine ⟨rfl, _, inck, ⟨k + 1, decide (0 ≤ z)⟩, all_sl ⟨rfl, rfl, trivial⟩, rfl, ole_refl _, ⟨by dsimp only; omega, ?_⟩, by dsimp only; omega⟩
          show decide (0 ≤ z) = (ok && (rts.take (k + 1)).all (tyq l))
          rw [hsn, ← Bool.and_assoc, ← hok1]
          show decide (0 ≤ z) = (true && (decide (xs = []) || decide (0 ≤ findD l xs xr)))
          rw [decide_eq_false hs, hz]; rfl
    · intro hqk
      have hqk : ¬ (k : Int) < rts.length := hqk
      have ek : k = rts.length := by omega
      rw [ek, List.take_length] at hok1
      have hok1 : ok1 = (ok && tyOK l ⟨rn, rts, rns⟩) := hok1
      have hsz : rns.length = (T rns).size := by
        have := congrArg List.length t2
        rwa [layN_len] at this
      have hw0 : (((0 + (T rns).size : Nat) : Int) - 1) = IntKind.i64.wrap ((rns.length : Int) - 1) := by rw [i64_in ((rns.length : Int) - 1) ⟨by omega, by omega⟩]; omega
      have hAt : AtT rns 0 (T rns) := ⟨[], [], by rw [List.nil_append, List.append_nil]; exact t2, rfl⟩
      have hwl := walkT_len (l := l) (fun x hx => (hbd x hx).1) i (T rns) false
      have hwc := fun u W hu => walk_all (T rns) t1 l i _ 0 false u W hy hAt hbd (by omega) hu
      obtain ⟨RW, hRW⟩ : ∃ RW, walkT l i (T rns) false = RW := ⟨_, rfl⟩
      rw [hRW] at hsucc hwl hwc
      refine ⟨rfl, _, hw0, ?_⟩
      refine call_v rfl (fun W' lw => hwc _ W' (hv1.mono nameR.mono (l3.trans (l4.trans lw)))) (fun W5 v5 W6 l5 l6 hv5 => ?_)
      obtain ⟨y1, rfl, hy1⟩ := hv5
      obtain ⟨Ew, bw⟩ := RW
      dsimp only at hwl hy1 hsucc
      obtain ⟨A1, c4, rfl, _, _⟩ := hy1.form
      refine ⟨_, rfl, _, rfl, ?_⟩
      cases ok1
      all_goals
        refine ⟨0, _, (Ew.map deC).flatten, rfl, rfl, rfl, rfl, len_flat (f := deC) (sz := 3) (fun _ => rfl) Ew, one_flat deC_one Ew, fun hp => ?_, by show n + Ew.length ≤ maxLen; exact Nat.le_trans (show n + Ew.length ≤ 200000000 by omega) (by decide), by show (n + Ew.length) * 24 ≤ 140737488355328; omega, rfl, @fun A3 c3 _ => ?_⟩
        · obtain ⟨_, _, he, _, _, hr⟩ := hy1
          obtain ⟨a', ha', hrd⟩ := hr hp
          simp only [Value.slice.injEq] at he
          exact ⟨a', he.1.trans ha', hrd.o⟩
        refine ⟨rfl, _, inc, ⟨i + 1, n + Ew.length, A3, c3, es ++ Ew, _⟩, all_sl ⟨rfl, rfl, rfl, trivial⟩, rfl, ole_eq ?_, ⟨by dsimp only; omega, by dsimp only; rw [List.length_append, hn], ?_⟩, by dsimp only; omega⟩
        · show _ = [edO A3 (n + Ew.length) c3 (es ++ Ew)]
          unfold edO
          rw [List.map_append, List.flatten_append]
          rfl
        · dsimp only
          rw [hsucc, ← hup]
          unfold appD
          dsimp only
          rw [← Bool.and_assoc, ← hok1]
          first | rfl | (rw [Bool.true_and]) | (rw [Bool.false_and])
  · intro hq
    have hq : ¬ (i : Int) < l.length := hq
    have ei : i = l.length := by omega
    rw [ei] at hup
    rw [← hup] at hD
    dsimp only at hD
    refine ⟨TqSt, fun t => [(6, .v (.bool t.ok)), (12, .v (.int .i64 t.k))], fun _ => [[.v (.slice a1 x.spaces.length c1), .v (.slice a2 x.scopes.length c2)]], fun _ => [edO A n d es], fun t _ => t.k ≤ x.scopes.length ∧ t.ok = (ok && (x.scopes.take t.k).all (scOKD l)), fun t => x.scopes.length - t.k, ⟨0, ok⟩,
      all_sl ⟨rfl, rfl, trivial⟩, rfl, ole_refl _, ⟨Nat.zero_le _, by dsimp only; rw [List.take_zero, List.all_nil, Bool.and_true]⟩, loopOK (fun _ => ⟨⟨trivial, rfl⟩, ⟨trivial, rfl⟩, trivial⟩) (fun _ => rfl) (fun _ => rfl), ?_⟩
    rintro ⟨k, ok1⟩ W4 l4 ⟨hk, hok1⟩ fr2
    dsimp only at hk hok1
    refine ⟨rfl, ?_⟩
    apply br_split
    · intro hqk
      have hqk : (k : Int) < x.scopes.length := hqk
      have inck := (i64_in ((k : Int) + 1) ⟨by omega, by omega⟩).symm
      obtain ⟨ta2, rfl, tx, hx2, _, _, hr⟩ := RP.at (f := scopeC) (sz := 4) (fun _ => rfl) hK (l1.trans (l2.trans (l3.trans l4))) (j := (k : Int)) ⟨by omega, by omega⟩
      have hx2 : x.scopes[k]? = some tx := hx2
      have hsn := take_all_snoc (scOKD l) hx2
      obtain ⟨sn, ⟨so, si⟩, sr⟩ := tx
      cases ok1
      · refine ⟨rfl, _, inck, ⟨k + 1, false⟩, all_sl ⟨rfl, rfl, trivial⟩, rfl, ole_refl _, ⟨by dsimp only; omega, ?_⟩, by dsimp only; omega⟩
        show false = (ok && (x.scopes.take (k + 1)).all (scOKD l))
        rw [hsn, ← Bool.and_assoc, ← hok1]; rfl
      · have hr1 : Rd W4 (((ta2.add ((k : Int).toNat * 4)).add 1).add 0) (strV so) := by rw [Addr.add_add]; exact hr 1 _ rfl
        refine ⟨⟨by omega, hqk⟩, ta2, rfl, strV so, hr1.o, ⟨by omega, hqk⟩, ta2, rfl, strV sr, (hr 3 _ rfl).o, ?_⟩
        refine call_v rfl (fun W' lw => findd_x l so sr _ W' (by omega) (hv1.mono nameR.mono (l3.trans (l4.trans lw)))) (fun W5 v5 W6 l5 l6 hv5 => ?_)
        obtain ⟨z, hz, rfl⟩ : ∃ z, findD l so sr = z ∧ v5 = .int .i64 z := ⟨_, rfl, hv5⟩
        refine ⟨rfl, ?_⟩
        refine ⟨rfl, _, inck, ⟨k + 1, decide (0 ≤ z)⟩, all_sl ⟨rfl, rfl, trivial⟩, rfl, ole_refl _, ⟨by dsimp only; omega, ?_⟩, by dsimp only; omega⟩
        show decide (0 ≤ z) = (ok && (x.scopes.take (k + 1)).all (scOKD l))
        rw [hsn, ← Bool.and_assoc, ← hok1]
        show decide (0 ≤ z) = (true && decide (0 ≤ findD l so sr))
        rw [hz]; rfl
    · intro hqk
      have hqk : ¬ (k : Int) < x.scopes.length := hqk
      have ek : k = x.scopes.length := by omega
      rw [ek, List.take_length] at hok1
      rw [← hok1] at hD
      refine RetVC.freeze (i := 0) (fun _ hb => hb) rfl fun W6 l6 hfrz => ?_
      refine ret_plain rfl fun W7 l7 => ?_
      rw [hR, hD]
      exact ⟨_, rfl, slR (SlRead.mono hfrz l7) hn rfl⟩
end Go.Proofs.YtcgbcbdgjhnlaaaGreat
