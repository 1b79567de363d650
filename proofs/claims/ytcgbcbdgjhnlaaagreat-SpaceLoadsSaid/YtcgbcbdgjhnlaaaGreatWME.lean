/- Layer 18 (strata), plain: the chains of relations that the law asks for, and their numbers. No program here. -/
import Derived.Test.YtcgbcbdgjhnlaaaGreatWMA
import Derived.Test.YtcgbcbdgjhnlaaaGreatWStrN
import Derived.Test.YtcgbcbdgjhnlaaaGreatWMD
namespace Go.Proofs.YtcgbcbdgjhnlaaaGreat
open Go.RowKit

def smR (r : RelS) : Bool := Nat.ble r.types.length 1000 && Nat.ble r.nodes.length 1000 && r.nodes.all fun n => Nat.ble n.rel.length 1000 && Nat.ble n.thn.length 1000 && (decide (n.kind < 4) || (decide (0 ≤ n.a) && decide (n.a < r.nodes.length) && decide (0 ≤ n.b) && decide (n.b < r.nodes.length)))
def smB (c : ConfS) : Bool := Nat.ble c.spaces.length 1000 && Nat.ble c.scopes.length 1000 && c.spaces.all fun s => Nat.ble s.rels.length 1000 && s.rels.all smR
end Go.Proofs.YtcgbcbdgjhnlaaaGreat

/- Layer 18 (strata), walked: the law of chains. -/
namespace Go.Proofs.YtcgbcbdgjhnlaaaGreat
open Go.RowKit

theorem smC_of {c : ConfS} (h : okCB c) (hs : smB c = true) : SmC c := by
  unfold smB at hs
  simp only [Bool.and_eq_true, Nat.ble_eq, List.all_eq_true] at hs
  obtain ⟨⟨h1, h2⟩, h3⟩ := hs
  refine ⟨fun sp hsp => ⟨(h.sp sp hsp).name, fun r hr => ?_⟩, h.sc, h1, fun sp hsp => (h3 sp hsp).1, h2⟩
  have hr2 := (h.sp sp hsp).rels r hr
  have h4 := (h3 sp hsp).2 r hr
  unfold smR at h4
  simp only [Bool.and_eq_true, Bool.or_eq_true, Nat.ble_eq, List.all_eq_true, decide_eq_true_eq] at h4
  obtain ⟨⟨h5, h6⟩, h7⟩ := h4
  refine ⟨hr2.name, h5, h6, hr2.types, fun n hn => ?_⟩
  obtain ⟨⟨h8, h9⟩, h10⟩ := h7 n hn
  exact ⟨⟨by omega, by omega⟩, fun hk => h10.elim (fun h => absurd h (by omega)) fun h => ⟨h.1.1.1, h.1.1.2, h.1.2, h.2⟩⟩
end Go.Proofs.YtcgbcbdgjhnlaaaGreat

/- Layer 19 (space), walked: Add, Collect, List. No statement is proved here. -/
namespace Go.Proofs.YtcgbcbdgjhnlaaaGreat
open Go.RowKit

section
variable {P : Program} {B : Base} {ρ : Nat → Nat} {S : GS} {w : World}
/-- A slice that is owned, and that no caller lent, is not written any more. -/
theorem St.freeze2 (h : St B ρ S w) {i : Nat} {o : Own} (hi : S.O[i]? = some o) (hex : ∀ b, b ∈ B.ex → b ∈ B.rc ∨ ∃ (j : Nat) (oj : Own), j ≠ i ∧ S.O[j]? = some oj ∧ oj.v.ownBlock = some b) : ∃ W', S.W.Le W' ∧ SlRead W' o.v o.n o.cs ∧ St B ρ ⟨S.σ, S.O.eraseIdx i, W'⟩ w := by
  obtain ⟨h1, h2⟩ := h.own i o hi
  have hle : S.W.Le ⟨w, fun b => S.W.A b ∨ o.v.ownBlock = some b, fun b hb => hb.elim (fun hA => h.A_lt hA) (fun hb => h.own_lt hi hb), fun b => S.W.F b ∨ o.v.ownBlock = some b, fun b hb => hb.elim (fun h => .inl (S.W.fa b h)) .inr⟩ := ⟨h.vsize, fun _ hb => .inl hb, fun b hb => h.vblock b (S.W.fa b hb)⟩
  have hnew : ∀ b, o.v.ownBlock = some b → B.W.w.heap.size ≤ b := fun b hb => (h2 b hb).2.1.elim (fun he => by
    rcases hex b he with h3 | ⟨j, oj, hne, hj, hbj⟩
    · obtain ⟨k, hk⟩ := List.getElem?_of_mem h3
      obtain ⟨r1, r2⟩ := h.rc k b hk
      exact absurd r2 ((h2 b hb).2.2 k r1)
    · exact absurd (h.sep j i oj o b hj hi hbj hb) hne) id
  refine ⟨_, hle, ownsRow_read h1 fun b hb => .inr hb, ⟨h.keep, Nat.le_refl _, fun _ _ => rfl, h.mono.trans hle, fun b hb => hb.elim (h.back b) fun hb => .inr (hnew b hb), h.loc, fun k hk => ⟨fun hA => ?_, (h.locA k hk).2⟩, h.inj, h.cells, h.rc, fun j oj hj => ?_, fun j k oj ok b hj hk hbj hbk => ?_⟩⟩
  · rcases hA with hA | hA
    · exact (h.locA k hk).1 hA
    · exact (h2 _ hA).2.2 k hk rfl
  · obtain ⟨j', hne, hj', _⟩ := erase_mem j oj hj
    obtain ⟨g1, g2⟩ := h.own j' oj hj'
    exact ⟨g1, fun b hb => ⟨fun hA => hA.elim (g2 b hb).1 fun hb' => hne (h.sep j' i oj o b hj' hi hb hb'), (g2 b hb).2⟩⟩
  · obtain ⟨j', _, hj', ej⟩ := erase_mem j oj hj
    obtain ⟨k', _, hk', ek⟩ := erase_mem k ok hk
    have := h.sep j' k' oj ok b hj' hk' hbj hbk
    rw [ej, ek] at this
    split at this <;> split at this <;> omega
theorem RetVC.freeze2 {gs : List GV} {R : Value → PW → Prop} {i : Nat} {o : Own} (hi : S.O[i]? = some o) (hex : ∀ b, b ∈ B.ex → b ∈ B.rc ∨ ∃ (j : Nat) (oj : Own), j ≠ i ∧ S.O[j]? = some oj ∧ oj.v.ownBlock = some b) (hR : ∀ W', S.W.Le W' → SlRead W' o.v o.n o.cs → RetVC B gs R ((S.setW W').modO fun O => O.eraseIdx i)) : RetVC B gs R S := by
  refine ⟨fun ρ w hst => ?_⟩
  obtain ⟨W', h1, h2, h3⟩ := hst.freeze2 hi hex
  exact (hR W' h1 h2).run ρ w h3
theorem Rds.drop {W : PW} {a : Addr} {cs : List Value} (h : Rds W a cs) (k : Nat) : Rds W (a.add k) (cs.drop k) := by
  intro j v hj
  rw [List.getElem?_drop] at hj
  rw [Addr.add_add]
  exact h (k + j) v hj
end

def addS (xs : List EntS) (rev : Int) (c : ConfS) : List EntS × Int :=
  if (∃ e, xs[xs.length - 1]? = some e ∧ rev ≤ e.rev) then (xs, 12)
  else if (numbersS c).2 ≠ 0 then (xs, (numbersS c).2)
  else if 16 ≤ xs.length then (xs, 8)
  else (xs ++ [⟨rev, c, (numbersS c).1⟩], 0)
set_option maxHeartbeats 8000000 in
theorem add_x (xs : List EntS) (css : List (List Value)) (A : Option Addr) (c : Nat) (gone rev : Int) (x : ConfS) (cs : List Value) (g : Nat) (W : PW) (hp : HPre W g A c gone xs css) (hn : xs.length ≤ 1000) (hok : okCB x) (hSm : rightN x = true → SmC x) (hB : BdC x) (hC : ConfR W x cs) :
    CallsX Tryz.prog 15 ⟨[.pointer (some ⟨g, 0, none⟩), .int .u64 rev, .agg ⟨cs⟩]⟩ (g :: (histO A xs.length c css).v.ownBlock.toList) W fun v W' => v = .int .i64 (addS xs rev x).2 ∧ ∃ A' c' css', HPost (histO A xs.length c css) W.w.heap.size W' g A' c' gone (addS xs rev x).1 css' := by
  obtain ⟨hown, ho, hne, hL⟩ := hp
  obtain ⟨hat, hnc⟩ := own_at ho
  have hmax := maxLen_big
  obtain ⟨a1, d1, a2, d2, rfl⟩ := hC.form
  obtain ⟨R, hR⟩ : ∃ R, addS xs rev x = R := ⟨_, rfl⟩
  have hdef : R = (if (∃ e, xs[xs.length - 1]? = some e ∧ rev ≤ e.rev) then (xs, 12)
    else if (numbersS x).2 ≠ 0 then (xs, (numbersS x).2)
    else if 16 ≤ xs.length then (xs, 8)
    else (xs ++ [⟨rev, x, (numbersS x).1⟩], 0)) := by rw [← hR]; rfl
  rw [hR]
  obtain ⟨n1, hn1⟩ : ∃ n, x.spaces.length = n := ⟨_, rfl⟩
  obtain ⟨n2, hn2⟩ : ∃ n, x.scopes.length = n := ⟨_, rfl⟩
  rw [hn1, hn2] at hC ⊢
  have stay : ∀ r : Int, R = (xs, r) → ∀ W', W.Le W' → OwnB W' g (histV (.slice A xs.length c) gone) → OwnS (histO A xs.length c css).v.ownBlock.toList W.w.heap.size W' (histO A xs.length c css) →
      Value.int .i64 r = .int .i64 R.2 ∧ ∃ A' c' css', HPost (histO A xs.length c css) W.w.heap.size W' g A' c' gone R.1 css' := fun r hr W' l h1 h2 => by
    subst hr
    exact ⟨rfl, A, c, css, h1, h2, hL.mono entR.mono l⟩
  refine methOX (o := histO A xs.length c css) hmix Tryz.func15 r15 (by kernel_rfl) hown ho hne [.int .u64 rev, .agg ⟨[.slice a1 n1 d1, .slice a2 n2 d2]⟩] rfl ?_
  refine vc_assoc (vc_cut (fun f' S' => ∃ W1, S' = ⟨[(histV (.slice A xs.length c) gone).map .v, [.v (.slice a1 n1 d1), .v (.slice a2 n2 d2)]], [histO A xs.length c css], W1⟩ ∧ W.Le W1 ∧ ¬ (∃ e, xs[xs.length - 1]? = some e ∧ rev ≤ e.rev) ∧ AllSl f' [(0, .lp 0 0), (1, .v (.int .u64 rev)), (5, .lp 1 0)]) ?_ ?_)
  · refine call_made rfl rfl rfl (fun W1 l1 => ?_)
    refine ⟨rfl, ?_⟩
    apply br_split
    · intro h1
      have h1 : (0 : Int) < xs.length := h1
      obtain ⟨b, rfl, e, b1, m1, e1, b2, m2, e2, b3, m3, e3, hx, _, _, _, hrd, _⟩ := hist_at (c := c) hL hat (j := (xs.length : Int) - 1) ⟨by omega, by omega⟩
      have hx : xs[xs.length - 1]? = some e := by rw [← hx]; congr 1; omega
      obtain ⟨er, her⟩ : ∃ er, e.rev = er := ⟨_, rfl⟩
      rw [her] at hrd
      refine ⟨rfl, _, (i64_in ((xs.length : Int) - 1) ⟨by omega, by omega⟩).symm, ⟨by omega, by omega⟩, b, rfl, .int .u64 er, hrd _ 0 rfl, rfl, ?_⟩
      apply br_split
      · intro h2
        have h2 : rev ≤ er := h2
        refine ret_m1own (i := 0) rfl rfl rfl rfl rfl rfl fun W' l2 h3 h4 => stay 12 ?_ W' (l1.trans l2) h3 h4
        rw [hdef, if_pos ⟨e, hx, by omega⟩]
      · intro h2
        have h2 : ¬ rev ≤ er := h2
        refine ⟨W1, rfl, l1, ?_, ⟨rfl, rfl, rfl, trivial⟩⟩
        rintro ⟨e', he', h3⟩
        rw [hx] at he'
        obtain rfl := Option.some.inj he'
        omega
    · intro h1
      have h1 : ¬ (0 : Int) < xs.length := h1
      refine ⟨W1, rfl, l1, ?_, ⟨rfl, rfl, rfl, trivial⟩⟩
      rintro ⟨e', he', _⟩
      have := (List.getElem?_eq_some_iff.1 he').1
      omega
  rintro f1 S1 ⟨W1, rfl, l1, hnew, hfr⟩
  rw [if_neg hnew] at hdef
  refine vc_at _ hfr ?_
  refine call_v rfl (fun W' lw => numbers_x newIndex_x x _ W' hok hSm (ConfR.mono _ _ _ _ (l1.trans lw) hC)) (fun W2 v W3 l2 l3 hv => ?_)
  obtain ⟨u, rfl, hN⟩ := hv
  obtain ⟨num, hnum⟩ : ∃ y, (numbersS x).1 = y := ⟨_, rfl⟩
  obtain ⟨code, hcode⟩ : ∃ y, (numbersS x).2 = y := ⟨_, rfl⟩
  rw [hnum] at hN hdef
  rw [hcode] at hdef ⊢
  obtain ⟨a3, d3, rfl, _, _⟩ := RL.form hN
  obtain ⟨n3, hn3⟩ : ∃ n, num.length = n := ⟨_, rfl⟩
  rw [hn3] at hN ⊢
  have l13 := l1.trans (l2.trans l3)
  refine ⟨_, rfl, _, rfl, rfl, ?_⟩
  apply br_nsplit
  · intro h1
    have h1 : ¬ code = 0 := h1
    rw [if_pos h1] at hdef
    exact ret_m1own (i := 0) rfl rfl rfl rfl rfl rfl fun W' l4 h3 h4 => stay code hdef W' (l13.trans l4) h3 h4
  intro h1
  have h1 : code = 0 := h1
  rw [if_neg (fun h => h h1)] at hdef
  refine ⟨rfl, ?_⟩
  apply br_split
  · intro h2
    have h2 : (16 : Int) ≤ xs.length := h2
    rw [if_pos (by omega)] at hdef
    exact ret_m1own (i := 0) rfl rfl rfl rfl rfl rfl fun W' l4 h3 h4 => stay 8 hdef W' (l13.trans l4) h3 h4
  intro h2
  have h2 : ¬ (16 : Int) ≤ xs.length := h2
  rw [if_neg (by omega)] at hdef
  refine call_v rfl (fun W' lw => copied_x x _ W' hB (ConfR.mono _ _ _ _ (l13.trans lw) hC)) (fun W4 v W5 l4 l5 hv => ?_)
  obtain ⟨cells, rfl, hC2⟩ := hv
  obtain ⟨b1, e1, b2, e2, rfl⟩ := hC2.form
  rw [hn1, hn2] at hC2 ⊢
  refine ⟨rfl, .inl ?_⟩
  intro bd Wd ld hrd
  refine ⟨0, _, [.int .u64 rev, .slice b1 n1 e1, .slice b2 n2 e2, .slice a3 n3 d3], rfl, rfl, rfl, rfl, rfl, ?_, fun _ => ⟨_, rfl, hrd.o⟩, by show xs.length + 1 ≤ maxLen; omega, by show (xs.length + 1) * 80 ≤ 140737488355328; omega, rfl, @fun Ae ce _ => ?_⟩
  · intro u hu
    simp only [List.mem_cons, List.not_mem_nil, or_false] at hu
    rcases hu with rfl | rfl | rfl | rfl <;> rfl
  refine ret_m1own (i := 0) rfl rfl rfl rfl rfl rfl fun W' l6 h3 h4 => ?_
  subst hdef
  have el : (xs ++ [(⟨rev, x, num⟩ : EntS)]).length = xs.length + 1 := List.length_append
  refine ⟨rfl, Ae, ce, css ++ [[.int .u64 rev, .slice b1 n1 e1, .slice b2 n2 e2, .slice a3 n3 d3]], ?_, ?_, ?_⟩
  · rw [el]; exact h3
  · rw [el]
    have : (css ++ [[Value.int .u64 rev, .slice b1 n1 e1, .slice b2 n2 e2, .slice a3 n3 d3]]).flatten = css.flatten ++ [.int .u64 rev, .slice b1 n1 e1, .slice b2 n2 e2, .slice a3 n3 d3] := by simp
    unfold histO
    rw [this]
    exact h4
  · have lz := (l4.trans l5).trans (ld.trans l6)
    have hRR : entR W' ⟨rev, x, num⟩ [.int .u64 rev, .slice b1 n1 e1, .slice b2 n2 e2, .slice a3 n3 d3] := ⟨_, _, _, rfl, ConfR.mono _ _ _ _ (ld.trans l6) hC2, NumR.mono hN lz⟩
    exact LR.snoc rfl hRR (hL.mono entR.mono (l13.trans lz))
end Go.Proofs.YtcgbcbdgjhnlaaaGreat

/- Layer 19 (space), walked: Collect, List. No statement is proved here. -/
namespace Go.Proofs.YtcgbcbdgjhnlaaaGreat
open Go.RowKit

theorem OLe.second {a b : Own} : OLe [a, b] [b] := List.filter_sublist.trans (List.sublist_cons_self _ _)

def verR (W : PW) (e : EntS) (cs : List Value) : Prop := ∃ a1 n1 c1 a2 n2 c2, cs = [.int .u64 e.rev, .slice a1 n1 c1, .slice a2 n2 c2] ∧ ConfR W e.c [.slice a1 n1 c1, .slice a2 n2 c2]
theorem verR.mono (W W' : PW) (e : EntS) (cs : List Value) (l : W.Le W') (h : verR W e cs) : verR W' e cs := let ⟨a1, n1, c1, a2, n2, c2, e1, h1⟩ := h; ⟨a1, n1, c1, a2, n2, c2, e1, ConfR.mono _ _ _ _ l h1⟩
def verO (A : Option Addr) (n c : Nat) (css : List (List Value)) : Own := ⟨.slice A n c, 37, 3, n, css.flatten⟩
structure LsSt where
  i : Nat
  A : Option Addr
  c : Nat
  vss : List (List Value)
set_option maxHeartbeats 8000000 in
theorem list_x (xs : List EntS) (css : List (List Value)) (A : Option Addr) (c : Nat) (gone : Int) (g : Nat) (W : PW) (hp : HPre W g A c gone xs css) (hn : xs.length ≤ 1000) (hB : ∀ e ∈ xs, BdC e.c) :
    CallsX Tryz.prog 10 ⟨[.pointer (some ⟨g, 0, none⟩)]⟩ (g :: (histO A xs.length c css).v.ownBlock.toList) W fun v W' => RL verR 3 W' v xs ∧ HPost (histO A xs.length c css) W.w.heap.size W' g A c gone xs css := by
  obtain ⟨hown, ho, hne, hL⟩ := hp
  obtain ⟨hat, hnc⟩ := own_at ho
  have hmax := maxLen_big
  refine methOX (o := histO A xs.length c css) hmix Tryz.func10 r10 (by kernel_rfl) hown ho hne [] rfl ?_
  refine call_made rfl rfl rfl (fun W1 l1 => ?_)
  refine ⟨LsSt, fun t => [(3, .v (.slice t.A t.i t.c)), (14, .v (.int .i64 t.i))], fun _ => [(histV (.slice A xs.length c) gone).map .v], fun t => [histO A xs.length c css, verO t.A t.i t.c t.vss], fun t W' => t.i ≤ xs.length ∧ LR verR 3 W' (xs.take t.i) t.vss, fun t => xs.length - t.i, ⟨0, none, 0, []⟩,
    all_sl ⟨rfl, rfl, trivial⟩, rfl, ole_ins 37 3, ⟨Nat.zero_le _, trivial⟩, loopOK (fun _ => ⟨⟨trivial, rfl⟩, ⟨trivial, rfl⟩, trivial⟩) (fun _ => rfl) (fun _ => rfl), ?_⟩
  rintro ⟨i, D, d, vss⟩ W2 l2 ⟨hi, hV⟩ fr
  dsimp only at hi hV
  refine ⟨rfl, ?_⟩
  apply br_split
  · intro h1
    have hq : (i : Int) < xs.length := h1
    obtain ⟨b, rfl, e, a1, n1, c1, a2, n2, c2, a3, n3, c3, hx, hC, _, hrd, _⟩ := hist_at (c := c) (hL.mono entR.mono (l1.trans l2)) hat (j := i) ⟨by omega, hq⟩
    have hx : xs[i]? = some e := hx
    have hbe := hB e (List.mem_of_getElem? hx)
    refine ⟨⟨by omega, hq⟩, b, rfl, [.int .u64 e.rev, .slice a1 n1 c1, .slice a2 n2 c2, .slice a3 n3 c3], rfl, hrd _ 0 rfl, ?_⟩
    obtain ⟨er, her⟩ : ∃ er, e.rev = er := ⟨_, rfl⟩
    rw [her]
    refine call_v rfl (fun W' lw => copied_x e.c _ W' hbe (ConfR.mono _ _ _ _ lw hC)) (fun W3 v W4 l3 l4 hv => ?_)
    obtain ⟨cells, rfl, hC2⟩ := hv
    obtain ⟨m1, hm1⟩ : ∃ m, e.c.spaces.length = m := ⟨_, rfl⟩
    obtain ⟨m2, hm2⟩ : ∃ m, e.c.scopes.length = m := ⟨_, rfl⟩
    obtain ⟨b1, d1, b2, d2, rfl⟩ := hC2.form
    rw [hm1, hm2] at hC2 ⊢
    refine ⟨rfl, .inl ?_⟩
    intro bd Wd ld hrdd
    refine ⟨1, _, [.int .u64 er, .slice b1 m1 d1, .slice b2 m2 d2], rfl, rfl, rfl, rfl, rfl, ?_, fun _ => ⟨_, rfl, hrdd.o⟩, by show i + 1 ≤ maxLen; omega, by show (i + 1) * 56 ≤ 140737488355328; omega, rfl, @fun Ae ce _ => ?_⟩
    · intro u hu
      simp only [List.mem_cons, List.not_mem_nil, or_false] at hu
      rcases hu with rfl | rfl | rfl <;> rfl
    refine ⟨rfl, _, (i64_in ((i : Int) + 1) ⟨by omega, by omega⟩).symm, ⟨i + 1, Ae, ce, vss ++ [[.int .u64 er, .slice b1 m1 d1, .slice b2 m2 d2]]⟩, all_sl ⟨rfl, rfl, trivial⟩, rfl, ole_eq ?_, ⟨by dsimp only; omega, ?_⟩, by dsimp only; omega⟩
    · have : (vss ++ [[Value.int .u64 er, .slice b1 m1 d1, .slice b2 m2 d2]]).flatten = vss.flatten ++ [.int .u64 er, .slice b1 m1 d1, .slice b2 m2 d2] := by simp
      unfold verO
      dsimp only
      rw [this]
      rfl
    · have : xs.take (i + 1) = xs.take i ++ [e] := by rw [List.take_add_one, hx]; rfl
      dsimp only
      rw [this]
      have hRR : verR Wd e [.int .u64 er, .slice b1 m1 d1, .slice b2 m2 d2] := ⟨_, _, _, _, _, _, by rw [her], ConfR.mono _ _ _ _ ld hC2⟩
      exact LR.snoc rfl hRR (hV.mono verR.mono (l3.trans (l4.trans ld)))
  · intro h1
    have hq : ¬ (i : Int) < xs.length := h1
    have ei : i = xs.length := by omega
    rw [ei, List.take_length] at hV
    refine RetVC.freeze2 (i := 1) rfl (fun b hb => ?_) fun W3 l3 hfr => ?_
    · rcases List.mem_cons.1 hb with rfl | hb
      · exact .inl (List.mem_cons_self ..)
      · exact .inr ⟨0, _, by decide, rfl, by simpa using hb⟩
    refine ret_m1own (i := 0) rfl rfl rfl rfl rfl rfl fun W' l4 h3 h4 => ⟨⟨vss, hV.mono verR.mono (l3.trans l4), ?_⟩, h3, h4, hL.mono entR.mono (l1.trans (l2.trans (l3.trans l4)))⟩
    have h5 : SlRead W' (.slice D i d) i vss.flatten := SlRead.mono hfr l4
    rw [← ei]; exact h5
end Go.Proofs.YtcgbcbdgjhnlaaaGreat
