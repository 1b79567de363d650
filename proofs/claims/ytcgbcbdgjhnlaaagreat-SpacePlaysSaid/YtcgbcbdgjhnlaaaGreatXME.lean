/- Layer 18 (strata), plain: the chains of relations that the law asks for, and their numbers. No program here. -/
import Derived.Test.YtcgbcbdgjhnlaaaGreatXMA
import Derived.Test.YtcgbcbdgjhnlaaaGreatXStrN
import Derived.Test.YtcgbcbdgjhnlaaaGreatXMD
namespace Go.Proofs.YtcgbcbdgjhnlaaaGreat
open Go.RowKit

def smR (r : RelS) : Bool := Nat.ble r.types.length 1000 && Nat.ble r.nodes.length 1000 && r.nodes.all fun n => Nat.ble n.rel.length 1000 && Nat.ble n.thn.length 1000 && (decide (n.kind < 4) || (decide (0 ≤ n.a) && decide (n.a < r.nodes.length) && decide (0 ≤ n.b) && decide (n.b < r.nodes.length)))
def smB (c : ConfS) : Bool := Nat.ble c.spaces.length 1000 && Nat.ble c.scopes.length 1000 && c.spaces.all fun s => Nat.ble s.rels.length 1000 && s.rels.all smR
end Go.Proofs.YtcgbcbdgjhnlaaaGreat

/- Layer 18 (strata), walked: the law of chains. -/
namespace Go.Proofs.YtcgbcbdgjhnlaaaGreat
open Go.RowKit

theorem smC_of {c : ConfS} (h : okCB c) (hs : smB c = true) : SmC c := by
  unfold smB at hs
  simp only [Bool.and_eq_true, Nat.ble_eq, List.all_eq_true] at hs
  obtain ⟨⟨h1, h2⟩, h3⟩ := hs
  refine ⟨fun sp hsp => ⟨(h.sp sp hsp).name, fun r hr => ?_⟩, h.sc, h1, fun sp hsp => (h3 sp hsp).1, h2⟩
  have hr2 := (h.sp sp hsp).rels r hr
  have h4 := (h3 sp hsp).2 r hr
  unfold smR at h4
  simp only [Bool.and_eq_true, Bool.or_eq_true, Nat.ble_eq, List.all_eq_true, decide_eq_true_eq] at h4
  obtain ⟨⟨h5, h6⟩, h7⟩ := h4
  refine ⟨hr2.name, h5, h6, hr2.types, fun n hn => ?_⟩
  obtain ⟨⟨h8, h9⟩, h10⟩ := h7 n hn
  exact ⟨⟨by omega, by omega⟩, fun hk => h10.elim (fun h => absurd h (by omega)) fun h => ⟨h.1.1.1, h.1.1.2, h.1.2, h.2⟩⟩
end Go.Proofs.YtcgbcbdgjhnlaaaGreat

/- Layer 19 (space), walked: Add, Collect, List. No statement is proved here. -/
namespace Go.Proofs.YtcgbcbdgjhnlaaaGreat
open Go.RowKit

section
variable {P : Program} {B : Base} {ρ : Nat → Nat} {S : GS} {w : World}
/-- A slice that is owned, and that no caller lent, is not written any more. -/
theorem St.freeze2 (h : St B ρ S w) {i : Nat} {o : Own} (hi : S.O[i]? = some o) (hex : ∀ b, b ∈ B.ex → b ∈ B.rc ∨ ∃ (j : Nat) (oj : Own), j ≠ i ∧ S.O[j]? = some oj ∧ oj.v.ownBlock = some b) : ∃ W', S.W.Le W' ∧ SlRead W' o.v o.n o.cs ∧ St B ρ ⟨S.σ, S.O.eraseIdx i, W'⟩ w := by
  obtain ⟨h1, h2⟩ := h.own i o hi
  have hle : S.W.Le ⟨w, fun b => S.W.A b ∨ o.v.ownBlock = some b, fun b hb => hb.elim (fun hA => h.A_lt hA) (fun hb => h.own_lt hi hb), fun b => S.W.F b ∨ o.v.ownBlock = some b, fun b hb => hb.elim (fun h => .inl (S.W.fa b h)) .inr⟩ := ⟨h.vsize, fun _ hb => .inl hb, fun b hb => h.vblock b (S.W.fa b hb)⟩
  have hnew : ∀ b, o.v.ownBlock = some b → B.W.w.heap.size ≤ b := fun b hb => (h2 b hb).2.1.elim (fun he => by
    rcases hex b he with h3 | ⟨j, oj, hne, hj, hbj⟩
    · obtain ⟨k, hk⟩ := List.getElem?_of_mem h3
      obtain ⟨r1, r2⟩ := h.rc k b hk
      exact absurd r2 ((h2 b hb).2.2 k r1)
    · exact absurd (h.sep j i oj o b hj hi hbj hb) hne) id
  refine ⟨_, hle, ownsRow_read h1 fun b hb => .inr hb, ⟨h.keep, Nat.le_refl _, fun _ _ => rfl, h.mono.trans hle, fun b hb => hb.elim (h.back b) fun hb => .inr (hnew b hb), h.loc, fun k hk => ⟨fun hA => ?_, (h.locA k hk).2⟩, h.inj, h.cells, h.rc, fun j oj hj => ?_, fun j k oj ok b hj hk hbj hbk => ?_⟩⟩
  · rcases hA with hA | hA
    · exact (h.locA k hk).1 hA
    · exact (h2 _ hA).2.2 k hk rfl
  · obtain ⟨j', hne, hj', _⟩ := erase_mem j oj hj
    obtain ⟨g1, g2⟩ := h.own j' oj hj'
    exact ⟨g1, fun b hb => ⟨fun hA => hA.elim (g2 b hb).1 fun hb' => hne (h.sep j' i oj o b hj' hi hb hb'), (g2 b hb).2⟩⟩
  · obtain ⟨j', _, hj', ej⟩ := erase_mem j oj hj
    obtain ⟨k', _, hk', ek⟩ := erase_mem k ok hk
    have := h.sep j' k' oj ok b hj' hk' hbj hbk
    rw [ej, ek] at this
    split at this <;> split at this <;> omega
theorem RetVC.freeze2 {gs : List GV} {R : Value → PW → Prop} {i : Nat} {o : Own} (hi : S.O[i]? = some o) (hex : ∀ b, b ∈ B.ex → b ∈ B.rc ∨ ∃ (j : Nat) (oj : Own), j ≠ i ∧ S.O[j]? = some oj ∧ oj.v.ownBlock = some b) (hR : ∀ W', S.W.Le W' → SlRead W' o.v o.n o.cs → RetVC B gs R ((S.setW W').modO fun O => O.eraseIdx i)) : RetVC B gs R S := by
  refine ⟨fun ρ w hst => ?_⟩
  obtain ⟨W', h1, h2, h3⟩ := hst.freeze2 hi hex
  exact (hR W' h1 h2).run ρ w h3
/-- A call that only reads (the slices that are owned, too), and whose answer is a slice that only the caller holds. -/
theorem call_roOwn {fid : FuncId} {args : List GV} {vs : List Value} {prot : List Nat} {K : GV → GS → Prop} (R : Value → Own → Prop) (hp : plainGs args = some vs) (hcall : Callable P fid)
    (hc : ∀ W', S.W.Le W' → (∀ (i : Nat) (o : Own), S.O[i]? = some o → SlRead W' o.v o.n o.cs) → CallsX P fid ⟨vs⟩ [] W' fun v W'' => ∃ o, OwnS [] W'.w.heap.size W'' o ∧ R v o)
    (hK : ∀ v o W', S.W.Le W' → R v o → K (.v v) ((S.setW W').modO fun O => O ++ [o])) : CallVC P B fid args prot S K := by
  refine ⟨hcall, fun ρ w hst => ?_⟩
  rw [plainGs_real hp ρ]
  refine (hc _ hst.le_all fun i o hi => hst.own_all hi).2.mono fun e w' ⟨v, W', h1, h2, h3, o, h4, h5⟩ => ?_
  subst h2
  have hs : w.heap.size ≤ W'.w.heap.size := h3.le.size
  obtain ⟨W3, e3, eA, hadv⟩ : ∃ W3 : PW, W3.w = W'.w ∧ W3.A = S.W.A ∧ Adv [] hst.here W3 :=
    ⟨⟨W'.w, S.W.A, fun _ hb => Nat.lt_of_lt_of_le (hst.A_lt hb) hs, S.W.F, S.W.fa⟩, rfl, rfl, h3.keep, ⟨hs, fun _ h => h, fun b hb => h3.keep.block b (hst.A_lt (S.W.fa b hb)) (by simp)⟩, fun _ h => .inl h⟩
  have hrow : W3.w.ownsRow 0 o.e o.sz o.v o.n o.cs := by rw [e3]; exact h4.1
  rw [← e3]
  refine ⟨.v v, ⟨S.σ, S.O ++ [o], W3⟩, ρ, h1, fun _ _ => rfl, ⟨Nat.le_refl _, hst.le_here.trans hadv.le, ⟨fun _ _ => rfl, fun _ i o' h => by show (S.O ++ [o])[i]? = _; rw [List.getElem?_append_left (List.getElem?_eq_some_iff.1 h).1]; exact h⟩⟩, trivial, (hst.grow hadv).addOwn hrow fun b hob => ?_, hK v o W3 (hst.le_here.trans hadv.le) h5⟩
  have hb : w.heap.size ≤ b := (h4.2 b hob).2.elim (fun h => by cases h) id
  refine ⟨fun hA => ?_, .inr (Nat.le_trans hst.keep.size hb), fun k hk e => ?_, fun j oj hj e => ?_⟩
  · rw [eA] at hA
    have := hst.A_lt hA; omega
  · have := hst.loc_lt hk; omega
  · have := hst.own_lt hj e; omega
theorem Rds.drop {W : PW} {a : Addr} {cs : List Value} (h : Rds W a cs) (k : Nat) : Rds W (a.add k) (cs.drop k) := by
  intro j v hj
  rw [List.getElem?_drop] at hj
  rw [Addr.add_add]
  exact h (k + j) v hj
/-- slices.Clone: its answer is the caller's own. -/
theorem cloneo_x {fid : FuncId} {fn : Func} {t e sz bytes : Nat} {i : TypeInfo} (hmix : P.follows .mixedOrders = true) (hu : P.underlying t = some (.slice e)) (hi : P.info? e = some i) (hf : P.funcs[fid]? = some fn) (hm : resF P fn = some ⟨8, [.tmp 2], cloneC t e sz bytes⟩) (hname : (fn.name == "runtime.NumGoroutine") = false)
    {W : PW} {v : Value} {n : Nat} {cs : List Value} (hs : SlRead W v n cs) (hone : ∀ u ∈ cs, u.oneCell' = true) (hl : cs.length = n * sz) (hn : n ≤ 100000) (hb : bytes ≤ 1000) : CallsX P fid ⟨[v]⟩ [] W fun u W' => ∃ o, OwnS [] W.w.heap.size W' o ∧ ∃ A' c', u = .slice A' n c' ∧ o = ⟨u, e, sz, n, cs⟩ := by
  obtain ⟨A, c, rfl, hnc, hcm, hr⟩ := hs
  have hmax := maxLen_big
  cases A with
  | none =>
    have h0 : n = 0 := by
      rcases Nat.eq_zero_or_pos n with h | h
      · exact h
      · obtain ⟨a, ha, _⟩ := hr h; cases ha
    subst h0
    have hcs : cs = [] := List.eq_nil_of_length_eq_zero (by rw [hl, Nat.zero_mul])
    subst hcs
    refine pureNX hmix hf hm hname [nilO e sz] rfl [.slice none 0 c] rfl ?_
    refine raw_slnil hu rfl rfl ?_
    exact ret_own (i := 0) rfl rfl rfl fun W' _ h => ⟨_, h, none, 0, rfl, rfl⟩
  | some a =>
    refine pureX hmix hf hm hname [.slice (some a) n c] rfl ?_
    refine raw_slnil hu rfl rfl ?_
    refine raw_build0 (sz := sz) hu hi rfl fun b => ?_
    refine ⟨0, _, cs, rfl, rfl, rfl, rfl, hl, hone, fun hp => ?_, by show 0 + n ≤ maxLen; omega, ?_, rfl, @fun A' c' _ => ?_⟩
    · obtain ⟨a', ha, hrd⟩ := hr hp
      exact ⟨a', ha, hrd.o⟩
    · show (0 + n) * bytes ≤ 140737488355328
      have : (0 + n) * bytes ≤ 100000 * 1000 := Nat.mul_le_mul (by omega) hb
      omega
    · refine ret_own (i := 0) rfl rfl rfl fun W' _ h => ⟨_, h, A', c', ?_, ?_⟩
      · show Value.slice A' (0 + n) c' = _; rw [Nat.zero_add]
      · show Own.mk (.slice A' (0 + n) c') e sz (0 + n) ([] ++ cs) = ⟨.slice A' (0 + n) c', e, sz, n, cs⟩
        rw [Nat.zero_add, List.nil_append]
end

def addS (xs : List EntS) (rev : Int) (c : ConfS) : List EntS × Int :=
  if (∃ e, xs[xs.length - 1]? = some e ∧ rev ≤ e.rev) then (xs, 12)
  else if (numbersS c).2 ≠ 0 then (xs, (numbersS c).2)
  else if 16 ≤ xs.length then (xs, 8)
  else (xs ++ [⟨rev, c, (numbersS c).1⟩], 0)
def collS (rev : Int) : List EntS → Int → List EntS × Int
  | e0 :: e1 :: r, g => if e1.rev ≤ rev then collS rev (e1 :: r) (g + 1) else (e0 :: e1 :: r, g)
  | l, g => (l, g)
theorem entC_one {W : PW} : ∀ {xs : List EntS} {css : List (List Value)}, LR entR 4 W xs css → ∀ u ∈ css.flatten, u.oneCell' = true
  | [], [], _, u, hu => by simp at hu
  | x :: xs, c :: cs, h, u, hu => by
    obtain ⟨⟨_, h2⟩, h3⟩ := h
    rw [List.flatten_cons, List.mem_append] at hu
    rcases hu with hu | hu
    · obtain ⟨a1, n1, c1, a2, n2, c2, a3, n3, c3, rfl, _, _⟩ := h2.form
      simp only [List.mem_cons, List.not_mem_nil, or_false] at hu
      rcases hu with rfl | rfl | rfl | rfl <;> rfl
    · exact entC_one h3 u hu
  | [], _ :: _, h, _, _ => h.elim
  | _ :: _, [], h, _, _ => h.elim

set_option maxHeartbeats 8000000 in
theorem add_x (xs : List EntS) (css : List (List Value)) (A : Option Addr) (c : Nat) (gone rev : Int) (x : ConfS) (cs : List Value) (g : Nat) (W : PW) (hp : HPre W g A c gone xs css) (hn : xs.length ≤ 1000) (hok : okCB x) (hSm : rightN x = true → SmC x) (hB : BdC x) (hC : ConfR W x cs) :
    CallsX Tryz.prog 15 ⟨[.pointer (some ⟨g, 0, none⟩), .int .u64 rev, .agg ⟨cs⟩]⟩ (g :: (histO A xs.length c css).v.ownBlock.toList) W fun v W' => v = .int .i64 (addS xs rev x).2 ∧ ∃ A' c' css', HPost (histO A xs.length c css) W.w.heap.size W' g A' c' gone (addS xs rev x).1 css' := by
  obtain ⟨hown, ho, hne, hL⟩ := hp
  obtain ⟨hat, hnc⟩ := own_at ho
  have hmax := maxLen_big
  obtain ⟨a1, d1, a2, d2, rfl⟩ := hC.form
  obtain ⟨R, hR⟩ : ∃ R, addS xs rev x = R := ⟨_, rfl⟩
  have hdef : R = (if (∃ e, xs[xs.length - 1]? = some e ∧ rev ≤ e.rev) then (xs, 12)
    else if (numbersS x).2 ≠ 0 then (xs, (numbersS x).2)
    else if 16 ≤ xs.length then (xs, 8)
    else (xs ++ [⟨rev, x, (numbersS x).1⟩], 0)) := by rw [← hR]; rfl
  rw [hR]
  obtain ⟨n1, hn1⟩ : ∃ n, x.spaces.length = n := ⟨_, rfl⟩
  obtain ⟨n2, hn2⟩ : ∃ n, x.scopes.length = n := ⟨_, rfl⟩
  rw [hn1, hn2] at hC ⊢
  have stay : ∀ r : Int, R = (xs, r) → ∀ W', W.Le W' → OwnB W' g (histV (.slice A xs.length c) gone) → OwnS (histO A xs.length c css).v.ownBlock.toList W.w.heap.size W' (histO A xs.length c css) →
      Value.int .i64 r = .int .i64 R.2 ∧ ∃ A' c' css', HPost (histO A xs.length c css) W.w.heap.size W' g A' c' gone R.1 css' := fun r hr W' l h1 h2 => by
    subst hr
    exact ⟨rfl, A, c, css, h1, h2, hL.mono entR.mono l⟩
  refine methOX (o := histO A xs.length c css) hmix Tryz.func15 r15 (by kernel_rfl) hown ho hne [.int .u64 rev, .agg ⟨[.slice a1 n1 d1, .slice a2 n2 d2]⟩] rfl ?_
  refine vc_assoc (vc_cut (fun f' S' => ∃ W1, S' = ⟨[(histV (.slice A xs.length c) gone).map .v, [.v (.slice a1 n1 d1), .v (.slice a2 n2 d2)]], [histO A xs.length c css], W1⟩ ∧ W.Le W1 ∧ ¬ (∃ e, xs[xs.length - 1]? = some e ∧ rev ≤ e.rev) ∧ AllSl f' [(0, .lp 0 0), (1, .v (.int .u64 rev)), (5, .lp 1 0)]) ?_ ?_)
  · refine call_made rfl rfl rfl (fun W1 l1 => ?_)
    refine ⟨rfl, ?_⟩
    apply br_split
    · intro h1
      have h1 : (0 : Int) < xs.length := h1
      obtain ⟨b, rfl, e, b1, m1, e1, b2, m2, e2, b3, m3, e3, hx, _, _, _, hrd, _⟩ := hist_at (c := c) hL hat (j := (xs.length : Int) - 1) ⟨by omega, by omega⟩
      have hx : xs[xs.length - 1]? = some e := by rw [← hx]; congr 1; omega
      obtain ⟨er, her⟩ : ∃ er, e.rev = er := ⟨_, rfl⟩
      rw [her] at hrd
      refine ⟨rfl, _, (i64_in ((xs.length : Int) - 1) ⟨by omega, by omega⟩).symm, ⟨by omega, by omega⟩, b, rfl, .int .u64 er, hrd _ 0 rfl, rfl, ?_⟩
      apply br_split
      · intro h2
        have h2 : rev ≤ er := h2
        refine ret_m1own (i := 0) rfl rfl rfl rfl rfl rfl fun W' l2 h3 h4 => stay 12 ?_ W' (l1.trans l2) h3 h4
        rw [hdef, if_pos ⟨e, hx, by omega⟩]
      · intro h2
        have h2 : ¬ rev ≤ er := h2
        refine ⟨W1, rfl, l1, ?_, ⟨rfl, rfl, rfl, trivial⟩⟩
        rintro ⟨e', he', h3⟩
        rw [hx] at he'
        obtain rfl := Option.some.inj he'
        omega
    · intro h1
      have h1 : ¬ (0 : Int) < xs.length := h1
      refine ⟨W1, rfl, l1, ?_, ⟨rfl, rfl, rfl, trivial⟩⟩
      rintro ⟨e', he', _⟩
      have := (List.getElem?_eq_some_iff.1 he').1
      omega
  rintro f1 S1 ⟨W1, rfl, l1, hnew, hfr⟩
  rw [if_neg hnew] at hdef
  refine vc_at _ hfr ?_
  refine call_v rfl (fun W' lw => numbers_x newIndex_x x _ W' hok hSm (ConfR.mono _ _ _ _ (l1.trans lw) hC)) (fun W2 v W3 l2 l3 hv => ?_)
  obtain ⟨u, rfl, hN⟩ := hv
  obtain ⟨num, hnum⟩ : ∃ y, (numbersS x).1 = y := ⟨_, rfl⟩
  obtain ⟨code, hcode⟩ : ∃ y, (numbersS x).2 = y := ⟨_, rfl⟩
  rw [hnum] at hN hdef
  rw [hcode] at hdef ⊢
  obtain ⟨a3, d3, rfl, _, _⟩ := RL.form hN
  obtain ⟨n3, hn3⟩ : ∃ n, num.length = n := ⟨_, rfl⟩
  rw [hn3] at hN ⊢
  have l13 := l1.trans (l2.trans l3)
  refine ⟨_, rfl, _, rfl, rfl, ?_⟩
  apply br_nsplit
  · intro h1
    have h1 : ¬ code = 0 := h1
    rw [if_pos h1] at hdef
    exact ret_m1own (i := 0) rfl rfl rfl rfl rfl rfl fun W' l4 h3 h4 => stay code hdef W' (l13.trans l4) h3 h4
  intro h1
  have h1 : code = 0 := h1
  rw [if_neg (fun h => h h1)] at hdef
  refine ⟨rfl, ?_⟩
  apply br_split
  · intro h2
    have h2 : (16 : Int) ≤ xs.length := h2
    rw [if_pos (by omega)] at hdef
    exact ret_m1own (i := 0) rfl rfl rfl rfl rfl rfl fun W' l4 h3 h4 => stay 8 hdef W' (l13.trans l4) h3 h4
  intro h2
  have h2 : ¬ (16 : Int) ≤ xs.length := h2
  rw [if_neg (by omega)] at hdef
  refine call_v rfl (fun W' lw => copied_x x _ W' hB (ConfR.mono _ _ _ _ (l13.trans lw) hC)) (fun W4 v W5 l4 l5 hv => ?_)
  obtain ⟨cells, rfl, hC2⟩ := hv
  obtain ⟨b1, e1, b2, e2, rfl⟩ := hC2.form
  rw [hn1, hn2] at hC2 ⊢
  refine ⟨rfl, .inl ?_⟩
  intro bd Wd ld hrd
  refine ⟨0, _, [.int .u64 rev, .slice b1 n1 e1, .slice b2 n2 e2, .slice a3 n3 d3], rfl, rfl, rfl, rfl, rfl, ?_, fun _ => ⟨_, rfl, hrd.o⟩, by show xs.length + 1 ≤ maxLen; omega, by show (xs.length + 1) * 80 ≤ 140737488355328; omega, rfl, @fun Ae ce _ => ?_⟩
  · intro u hu
    simp only [List.mem_cons, List.not_mem_nil, or_false] at hu
    rcases hu with rfl | rfl | rfl | rfl <;> rfl
  refine ret_m1own (i := 0) rfl rfl rfl rfl rfl rfl fun W' l6 h3 h4 => ?_
  subst hdef
  have el : (xs ++ [(⟨rev, x, num⟩ : EntS)]).length = xs.length + 1 := List.length_append
  refine ⟨rfl, Ae, ce, css ++ [[.int .u64 rev, .slice b1 n1 e1, .slice b2 n2 e2, .slice a3 n3 d3]], ?_, ?_, ?_⟩
  · rw [el]; exact h3
  · rw [el]
    have : (css ++ [[Value.int .u64 rev, .slice b1 n1 e1, .slice b2 n2 e2, .slice a3 n3 d3]]).flatten = css.flatten ++ [.int .u64 rev, .slice b1 n1 e1, .slice b2 n2 e2, .slice a3 n3 d3] := by simp
    unfold histO
    rw [this]
    exact h4
  · have lz := (l4.trans l5).trans (ld.trans l6)
    have hRR : entR W' ⟨rev, x, num⟩ [.int .u64 rev, .slice b1 n1 e1, .slice b2 n2 e2, .slice a3 n3 d3] := ⟨_, _, _, rfl, ConfR.mono _ _ _ _ (ld.trans l6) hC2, NumR.mono hN lz⟩
    exact LR.snoc rfl hRR (hL.mono entR.mono (l13.trans lz))
end Go.Proofs.YtcgbcbdgjhnlaaaGreat

/- Layer 19 (space), walked: Collect, List. No statement is proved here. -/
namespace Go.Proofs.YtcgbcbdgjhnlaaaGreat
open Go.RowKit

theorem collS_go {rev : Int} {xs : List EntS} {e : EntS} {g : Int} (h : xs[1]? = some e) (hr : e.rev ≤ rev) : collS rev xs g = collS rev (xs.drop 1) (g + 1) := by
  match xs, h with
  | e0 :: e1 :: r, h =>
    obtain rfl : e1 = e := Option.some.inj h
    show (if e1.rev ≤ rev then collS rev (e1 :: r) (g + 1) else _) = _
    rw [if_pos hr]; rfl
theorem collS_stop {rev : Int} {xs : List EntS} {g : Int} (h : ∀ e, xs[1]? = some e → ¬ e.rev ≤ rev) : collS rev xs g = (xs, g) := by
  match xs, h with
  | [], _ => rfl
  | [_], _ => rfl
  | e0 :: e1 :: r, h =>
    show (if e1.rev ≤ rev then collS rev (e1 :: r) (g + 1) else _) = _
    rw [if_neg (h e1 rfl)]
theorem LR.drop1 {W : PW} {xs : List EntS} {css : List (List Value)} (h : LR entR 4 W xs css) : LR entR 4 W (xs.drop 1) (css.drop 1) ∧ (0 < xs.length → css.flatten.drop 4 = (css.drop 1).flatten) := by
  match xs, css, h with
  | [], [], _ => exact ⟨trivial, fun h => absurd h (Nat.lt_irrefl 0)⟩
  | x :: xs, c :: cs, h =>
    obtain ⟨⟨h1, _⟩, h3⟩ := h
    refine ⟨h3, fun _ => ?_⟩
    rw [List.flatten_cons, List.drop_left' h1]; rfl
theorem sub_read {W : PW} {A : Option Addr} {n c sz : Nat} {cs : List Value} (h : SlRead W (.slice A n c) n cs) (h2 : 2 ≤ n) :
    SlRead W (.slice (if c = (1 : Int).toNat then A else A.map (·.add ((1 : Int).toNat * sz))) ((n : Int).toNat - (1 : Int).toNat) (c - (1 : Int).toNat)) (n - 1) (cs.drop sz) := by
  obtain ⟨A', c', e, h3, h4, h5⟩ := h
  simp only [Value.slice.injEq, true_and] at e
  obtain ⟨rfl, rfl⟩ := e
  obtain ⟨a, rfl, hr⟩ := h5 (by omega)
  have hc : ¬ c = (1 : Int).toNat := by show ¬ c = 1; omega
  refine ⟨_, _, rfl, by show n - 1 ≤ c - 1; omega, by show c - 1 ≤ maxLen; omega, fun _ => ⟨a.add ((1 : Int).toNat * sz), by rw [if_neg hc]; rfl, ?_⟩⟩
  have := hr.drop sz
  rw [show (1 : Int).toNat * sz = sz from Nat.one_mul sz]
  exact this

structure ClSt where
  n : Nat
  xs : List EntS
  A : Option Addr
  c : Nat
  css : List (List Value)
  gone : Int
def CloR (n : Nat) (css : List (List Value)) (v : Value) (o : Own) : Prop := ∃ A' c', v = .slice A' n c' ∧ o = histO A' n c' css ∧ OwnAt A' n ∧ n ≤ c'
theorem OLe.second {a b : Own} : OLe [a, b] [b] := List.filter_sublist.trans (List.sublist_cons_self _ _)

set_option maxHeartbeats 8000000 in
theorem collect_x (xs : List EntS) (css : List (List Value)) (A : Option Addr) (c : Nat) (gone rev : Int) (g : Nat) (W : PW) (hp : HPre W g A c gone xs css) (hn : xs.length ≤ 1000) (hg : 0 ≤ gone ∧ gone ≤ 1000000) :
    CallsX Tryz.prog 16 ⟨[.pointer (some ⟨g, 0, none⟩), .int .u64 rev]⟩ (g :: (histO A xs.length c css).v.ownBlock.toList) W fun v W' => v = .tuple ⟨[]⟩ ∧ ∃ A' c' css', HPost (histO A xs.length c css) W.w.heap.size W' g A' c' (collS rev xs gone).2 (collS rev xs gone).1 css' := by
  obtain ⟨hown, ho, hne, hL⟩ := hp
  obtain ⟨hat, hnc⟩ := own_at ho
  refine methOX (o := histO A xs.length c css) hmix Tryz.func16 r16 (by kernel_rfl) hown ho hne [.int .u64 rev] rfl ?_
  refine call_made rfl rfl rfl (fun W1 l1 => ?_)
  refine ⟨ClSt, fun _ => [], fun t => [(histV (.slice t.A t.n t.c) t.gone).map .v], fun t => [histO t.A t.n t.c t.css], fun t W' => t.n = t.xs.length ∧ LR entR 4 W' t.xs t.css ∧ OwnAt t.A t.n ∧ t.n ≤ t.c ∧ 0 ≤ t.gone ∧ t.n + t.gone ≤ 1001000 ∧ t.n ≤ 1000 ∧ collS rev xs gone = collS rev t.xs t.gone, fun t => t.n, ⟨xs.length, xs, A, c, css, gone⟩,
    all_sl trivial, rfl, ole_refl _, ⟨rfl, hL.mono entR.mono l1, hat, hnc, hg.1, by dsimp only; omega, hn, rfl⟩, loopOK (fun _ => trivial) (fun _ => rfl) (fun _ => rfl), ?_⟩
  rintro ⟨n, ys, D, d, yss, gn⟩ W2 l2 ⟨hny, hLy, hatD, hnd, hg0, hgn, hn1, hcoll⟩ fr
  dsimp only at hny hLy hatD hnd hg0 hgn hn1 hcoll
  have stop : (∀ e, ys[1]? = some e → ¬ e.rev ≤ rev) → ∀ W', W2.Le W' → OwnB W' g (histV (.slice D n d) gn) → OwnS (histO A xs.length c css).v.ownBlock.toList W.w.heap.size W' (histO D n d yss) →
      Value.tuple ⟨[]⟩ = .tuple ⟨[]⟩ ∧ ∃ A' c' css', HPost (histO A xs.length c css) W.w.heap.size W' g A' c' (collS rev xs gone).2 (collS rev xs gone).1 css' := fun hs W' l h3 h4 => by
    rw [hcoll, collS_stop hs]
    refine ⟨rfl, D, d, yss, ?_, ?_, hLy.mono entR.mono l⟩
    · rw [← hny]; exact h3
    · rw [← hny]; exact h4
  refine ⟨rfl, ?_⟩
  apply br_split
  · intro h1
    have h1 : (1 : Int) < n := h1
    rw [hny] at hatD
    obtain ⟨b, rfl, e, b1, m1, e1, b2, m2, e2, b3, m3, e3, hx, _, _, _, hrd, _⟩ := hist_at (c := d) hLy hatD (j := 1) ⟨by omega, by omega⟩
    rw [← hny] at hatD hrd
    have hx : ys[1]? = some e := hx
    refine ⟨⟨by decide, h1⟩, b, rfl, .int .u64 e.rev, hrd _ 0 rfl, rfl, ?_⟩
    obtain ⟨er, her⟩ : ∃ er, e.rev = er := ⟨_, rfl⟩
    rw [her]
    apply br_split
    · intro h2
      have h2 : er ≤ rev := h2
      rw [collS_go hx (by omega)] at hcoll
      refine ⟨⟨by decide, by show (1 : Int) ≤ (n : Int); omega, by show ((n : Nat) : Int) ≤ ((d : Nat) : Int); omega⟩, ?_⟩
      obtain ⟨hL1, hfl⟩ := hLy.drop1
      refine call_roOwn (CloR (n - 1) (yss.drop 1)) rfl k27 (fun W' lw hall => ?_) (fun v o W3 l3 hv => ?_)
      · have hs := sub_read (sz := 4) (hall 0 _ rfl) (by show 2 ≤ n; omega)
        have hs : SlRead W' _ (n - 1) (yss.flatten.drop 4) := hs
        rw [hfl (by omega)] at hs
        have hlen := (LR.len hL1).2
        rw [List.length_drop, ← hny] at hlen
        exact (cloneo_x (t := 61) (e := 66) (sz := 4) (bytes := 80) hmix Tryz.underlying61 (info_some 66 (by kernel_rfl)).choose_spec Tryz.func27 r27 (by kernel_rfl) hs (entC_one hL1) hlen (by omega) (by decide)).mono fun u W'' ⟨o, hoo, A', c', hu, hoe⟩ => by
          subst hu
          subst hoe
          have := own_at (A := A') (n := n - 1) (c := c') (css := yss.drop 1) hoo
          exact ⟨_, hoo, A', c', rfl, rfl, this.1, this.2⟩
      obtain ⟨A', c', rfl, rfl, hat', hnc'⟩ := hv
      refine ⟨rfl, _, (i64_in (gn + 1) ⟨by omega, by omega⟩).symm, ⟨n - 1, ys.drop 1, A', c', yss.drop 1, gn + 1⟩, all_sl trivial, rfl, OLe.second, ⟨by dsimp only; rw [List.length_drop, hny], hL1.mono entR.mono l3, hat', hnc', by dsimp only; omega, by dsimp only; omega, by dsimp only; omega, hcoll⟩, by dsimp only; omega⟩
    · intro h2
      have h2 : ¬ er ≤ rev := h2
      refine ret_m1own (i := 0) rfl rfl rfl rfl rfl rfl fun W' l3 h3 h4 => stop ?_ W' l3 h3 h4
      intro e' he'
      rw [hx] at he'
      obtain rfl := Option.some.inj he'
      omega
  · intro h1
    have h1 : ¬ (1 : Int) < n := h1
    refine ret_m1own (i := 0) rfl rfl rfl rfl rfl rfl fun W' l3 h3 h4 => stop ?_ W' l3 h3 h4
    intro e' he'
    have := (List.getElem?_eq_some_iff.1 he').1
    omega

def verR (W : PW) (e : EntS) (cs : List Value) : Prop := ∃ a1 n1 c1 a2 n2 c2, cs = [.int .u64 e.rev, .slice a1 n1 c1, .slice a2 n2 c2] ∧ ConfR W e.c [.slice a1 n1 c1, .slice a2 n2 c2]
theorem verR.mono (W W' : PW) (e : EntS) (cs : List Value) (l : W.Le W') (h : verR W e cs) : verR W' e cs := let ⟨a1, n1, c1, a2, n2, c2, e1, h1⟩ := h; ⟨a1, n1, c1, a2, n2, c2, e1, ConfR.mono _ _ _ _ l h1⟩
def verO (A : Option Addr) (n c : Nat) (css : List (List Value)) : Own := ⟨.slice A n c, 37, 3, n, css.flatten⟩
structure LsSt where
  i : Nat
  A : Option Addr
  c : Nat
  vss : List (List Value)
set_option maxHeartbeats 8000000 in
theorem list_x (xs : List EntS) (css : List (List Value)) (A : Option Addr) (c : Nat) (gone : Int) (g : Nat) (W : PW) (hp : HPre W g A c gone xs css) (hn : xs.length ≤ 1000) (hB : ∀ e ∈ xs, BdC e.c) :
    CallsX Tryz.prog 10 ⟨[.pointer (some ⟨g, 0, none⟩)]⟩ (g :: (histO A xs.length c css).v.ownBlock.toList) W fun v W' => RL verR 3 W' v xs ∧ HPost (histO A xs.length c css) W.w.heap.size W' g A c gone xs css := by
  obtain ⟨hown, ho, hne, hL⟩ := hp
  obtain ⟨hat, hnc⟩ := own_at ho
  have hmax := maxLen_big
  refine methOX (o := histO A xs.length c css) hmix Tryz.func10 r10 (by kernel_rfl) hown ho hne [] rfl ?_
  refine call_made rfl rfl rfl (fun W1 l1 => ?_)
  refine ⟨LsSt, fun t => [(3, .v (.slice t.A t.i t.c)), (14, .v (.int .i64 t.i))], fun _ => [(histV (.slice A xs.length c) gone).map .v], fun t => [histO A xs.length c css, verO t.A t.i t.c t.vss], fun t W' => t.i ≤ xs.length ∧ LR verR 3 W' (xs.take t.i) t.vss, fun t => xs.length - t.i, ⟨0, none, 0, []⟩,
    all_sl ⟨rfl, rfl, trivial⟩, rfl, ole_ins 37 3, ⟨Nat.zero_le _, trivial⟩, loopOK (fun _ => ⟨⟨trivial, rfl⟩, ⟨trivial, rfl⟩, trivial⟩) (fun _ => rfl) (fun _ => rfl), ?_⟩
  rintro ⟨i, D, d, vss⟩ W2 l2 ⟨hi, hV⟩ fr
  dsimp only at hi hV
  refine ⟨rfl, ?_⟩
  apply br_split
  · intro h1
    have hq : (i : Int) < xs.length := h1
    obtain ⟨b, rfl, e, a1, n1, c1, a2, n2, c2, a3, n3, c3, hx, hC, _, hrd, _⟩ := hist_at (c := c) (hL.mono entR.mono (l1.trans l2)) hat (j := i) ⟨by omega, hq⟩
    have hx : xs[i]? = some e := hx
    have hbe := hB e (List.mem_of_getElem? hx)
    refine ⟨⟨by omega, hq⟩, b, rfl, [.int .u64 e.rev, .slice a1 n1 c1, .slice a2 n2 c2, .slice a3 n3 c3], rfl, hrd _ 0 rfl, ?_⟩
    obtain ⟨er, her⟩ : ∃ er, e.rev = er := ⟨_, rfl⟩
    rw [her]
    refine call_v rfl (fun W' lw => copied_x e.c _ W' hbe (ConfR.mono _ _ _ _ lw hC)) (fun W3 v W4 l3 l4 hv => ?_)
    obtain ⟨cells, rfl, hC2⟩ := hv
    obtain ⟨m1, hm1⟩ : ∃ m, e.c.spaces.length = m := ⟨_, rfl⟩
    obtain ⟨m2, hm2⟩ : ∃ m, e.c.scopes.length = m := ⟨_, rfl⟩
    obtain ⟨b1, d1, b2, d2, rfl⟩ := hC2.form
    rw [hm1, hm2] at hC2 ⊢
    refine ⟨rfl, .inl ?_⟩
    intro bd Wd ld hrdd
    refine ⟨1, _, [.int .u64 er, .slice b1 m1 d1, .slice b2 m2 d2], rfl, rfl, rfl, rfl, rfl, ?_, fun _ => ⟨_, rfl, hrdd.o⟩, by show i + 1 ≤ maxLen; omega, by show (i + 1) * 56 ≤ 140737488355328; omega, rfl, @fun Ae ce _ => ?_⟩
    · intro u hu
      simp only [List.mem_cons, List.not_mem_nil, or_false] at hu
      rcases hu with rfl | rfl | rfl <;> rfl
    refine ⟨rfl, _, (i64_in ((i : Int) + 1) ⟨by omega, by omega⟩).symm, ⟨i + 1, Ae, ce, vss ++ [[.int .u64 er, .slice b1 m1 d1, .slice b2 m2 d2]]⟩, all_sl ⟨rfl, rfl, trivial⟩, rfl, ole_eq ?_, ⟨by dsimp only; omega, ?_⟩, by dsimp only; omega⟩
    · have : (vss ++ [[Value.int .u64 er, .slice b1 m1 d1, .slice b2 m2 d2]]).flatten = vss.flatten ++ [.int .u64 er, .slice b1 m1 d1, .slice b2 m2 d2] := by simp
      unfold verO
      dsimp only
      rw [this]
      rfl
    · have : xs.take (i + 1) = xs.take i ++ [e] := by rw [List.take_add_one, hx]; rfl
      dsimp only
      rw [this]
      have hRR : verR Wd e [.int .u64 er, .slice b1 m1 d1, .slice b2 m2 d2] := ⟨_, _, _, _, _, _, by rw [her], ConfR.mono _ _ _ _ ld hC2⟩
      exact LR.snoc rfl hRR (hV.mono verR.mono (l3.trans (l4.trans ld)))
  · intro h1
    have hq : ¬ (i : Int) < xs.length := h1
    have ei : i = xs.length := by omega
    rw [ei, List.take_length] at hV
    refine RetVC.freeze2 (i := 1) rfl (fun b hb => ?_) fun W3 l3 hfr => ?_
    · rcases List.mem_cons.1 hb with rfl | hb
      · exact .inl (List.mem_cons_self ..)
      · exact .inr ⟨0, _, by decide, rfl, by simpa using hb⟩
    refine ret_m1own (i := 0) rfl rfl rfl rfl rfl rfl fun W' l4 h3 h4 => ⟨⟨vss, hV.mono verR.mono (l3.trans l4), ?_⟩, h3, h4, hL.mono entR.mono (l1.trans (l2.trans (l3.trans l4)))⟩
    have h5 : SlRead W' (.slice D i d) i vss.flatten := SlRead.mono hfr l4
    rw [← ei]; exact h5
end Go.Proofs.YtcgbcbdgjhnlaaaGreat
