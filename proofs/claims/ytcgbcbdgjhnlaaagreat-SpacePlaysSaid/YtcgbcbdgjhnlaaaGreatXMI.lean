/- Layer 19 (space), the document's history walked: Add, At. No statement is proved here. -/
import Derived.Test.YtcgbcbdgjhnlaaaGreatXME
import Derived.Test.YtcgbcbdgjhnlaaaGreatXStrAB
import Derived.Test.YtcgbcbdgjhnlaaaGreatXCodeZ
namespace Go.Proofs.YtcgbcbdgjhnlaaaGreat
open Go.RowKit

def dV (v : Value) (gone : Int) : List Value := [v, .int .i64 gone]
def dO (A : Option Addr) (n c : Nat) (css : List (List Value)) : Own := ⟨.slice A n c, 50, 3, n, css.flatten⟩
/-- What a method that is lent the document's history finds. -/
structure DPre (W : PW) (g : Nat) (A : Option Addr) (c : Nat) (gone : Int) (xs : List EntS) (css : List (List Value)) : Prop where
  own : OwnB W g (dV (.slice A xs.length c) gone)
  ho : OwnS (dO A xs.length c css).v.ownBlock.toList W.w.heap.size W (dO A xs.length c css)
  ne : g ∉ (dO A xs.length c css).v.ownBlock.toList
  lr : LR verR 3 W xs css
/-- What it leaves. -/
structure DPost (o : Own) (n₀ : Nat) (W : PW) (g : Nat) (A : Option Addr) (c : Nat) (gone : Int) (xs : List EntS) (css : List (List Value)) : Prop where
  own : OwnB W g (dV (.slice A xs.length c) gone)
  ho : OwnS o.v.ownBlock.toList n₀ W (dO A xs.length c css)
  lr : LR verR 3 W xs css
theorem down_at {l : List Nat} {n₀ : Nat} {W : PW} {A : Option Addr} {n c : Nat} {css : List (List Value)} (h : OwnS l n₀ W (dO A n c css)) : OwnAt A n ∧ n ≤ c := by
  rcases h.1.2 with ⟨e1, e2⟩ | ⟨g, cap, cur, e, _, _, h1, _⟩
  · simp only [dO, Value.slice.injEq] at e1
    obtain ⟨rfl, rfl, rfl⟩ := e1
    exact ⟨fun h => absurd h (Nat.lt_irrefl 0), Nat.le_refl _⟩
  · simp only [dO, Value.slice.injEq] at e
    obtain ⟨rfl, _, rfl⟩ := e
    exact ⟨fun _ => ⟨g, rfl⟩, h1⟩
theorem ver_at {W : PW} {A : Option Addr} {c : Nat} {xs : List EntS} {css : List (List Value)} (hL : LR verR 3 W xs css) (hA : OwnAt A xs.length) {j : Int} (hj : 0 ≤ j ∧ j < xs.length) :
    ∃ b, A = some b ∧ ∃ e a1 n1 c1 a2 n2 c2, xs[j.toNat]? = some e ∧ ConfR W e.c [.slice a1 n1 c1, .slice a2 n2 c2] ∧
      (∀ (S : GS) (i : Nat), S.O[i]? = some (dO A xs.length c css) → RdO S ((b.add (j.toNat * 3)).add 0) (.int .u64 e.rev)) ∧
      (∀ (S : GS) (i : Nat), S.O[i]? = some (dO A xs.length c css) → RdsO S ((b.add (j.toNat * 3)).add 1) [.slice a1 n1 c1, .slice a2 n2 c2]) := by
  obtain ⟨h1, h2⟩ := hj
  have hlt : j.toNat < xs.length := by omega
  obtain ⟨g, rfl⟩ := hA (by omega)
  obtain ⟨e, cc, hx, _, ⟨a1, n1, c1, a2, n2, c2, rfl, hC⟩, hcs⟩ := hL.get hlt
  have key : ∀ (S : GS) (i : Nat), S.O[i]? = some (dO (some ⟨g, 0, none⟩) xs.length c css) → ∀ (off : Nat) (v : Value), [Value.int .u64 e.rev, .slice a1 n1 c1, .slice a2 n2 c2][off]? = some v → RdO S ((⟨g, 0, none⟩ : Addr).add (j.toNat * 3 + off)) v :=
    fun S i hi off v hv => .inr ⟨i, _, _, _, _, _, hi, rfl, rfl, hcs off v hv⟩
  refine ⟨_, rfl, e, a1, n1, c1, a2, n2, c2, hx, hC, fun S i hi => ?_, fun S i hi k v hk => ?_⟩
  · rw [Addr.add_add]; exact key S i hi 0 _ rfl
  · rw [Addr.add_add, Addr.add_add]
    refine key S i hi (1 + k) v ?_
    match k, hk with
    | 0, hk => exact hk
    | 1, hk => exact hk
    | k + 2, hk => simp at hk
def daddS (xs : List EntS) (gone : Nat) (rev : Int) (c : ConfS) : List EntS × Int :=
  if gone < xs.length ∧ (∃ e, xs[xs.length - 1]? = some e ∧ rev ≤ e.rev) then (xs, 12)
  else if (numbersS c).2 ≠ 0 then (xs, (numbersS c).2)
  else if 16 ≤ xs.length - gone then (xs, 8)
  else (xs ++ [⟨rev, c, (numbersS c).1⟩], 0)
set_option maxHeartbeats 8000000 in
theorem dadd_x (xs : List EntS) (css : List (List Value)) (A : Option Addr) (c : Nat) (gone : Nat) (rev : Int) (x : ConfS) (cs : List Value) (g : Nat) (W : PW) (hp : DPre W g A c gone xs css) (hn : xs.length ≤ 1000) (hgn : gone ≤ xs.length) (hok : okCB x) (hB : BdC x) (hC : ConfR W x cs) :
    CallsX Tryz.prog 6 ⟨[.pointer (some ⟨g, 0, none⟩), .int .u64 rev, .agg ⟨cs⟩]⟩ (g :: (dO A xs.length c css).v.ownBlock.toList) W fun v W' => v = .int .i64 (daddS xs gone rev x).2 ∧ ∃ A' c' css', DPost (dO A xs.length c css) W.w.heap.size W' g A' c' gone (daddS xs gone rev x).1 css' := by
  obtain ⟨T, hT⟩ := treeF
  obtain ⟨hown, ho, hne, hL⟩ := hp
  obtain ⟨hat, hnc⟩ := down_at ho
  have hmax := maxLen_big
  obtain ⟨a1, d1, a2, d2, rfl⟩ := hC.form
  obtain ⟨R, hR⟩ : ∃ R, daddS xs gone rev x = R := ⟨_, rfl⟩
  have hdef : R = (if gone < xs.length ∧ (∃ e, xs[xs.length - 1]? = some e ∧ rev ≤ e.rev) then (xs, 12)
    else if (numbersS x).2 ≠ 0 then (xs, (numbersS x).2)
    else if 16 ≤ xs.length - gone then (xs, 8)
    else (xs ++ [⟨rev, x, (numbersS x).1⟩], 0)) := by rw [← hR]; rfl
  rw [hR]
  obtain ⟨n1, hn1⟩ : ∃ n, x.spaces.length = n := ⟨_, rfl⟩
  obtain ⟨n2, hn2⟩ : ∃ n, x.scopes.length = n := ⟨_, rfl⟩
  rw [hn1, hn2] at hC ⊢
  have stay : ∀ r : Int, R = (xs, r) → ∀ W', W.Le W' → OwnB W' g (dV (.slice A xs.length c) gone) → OwnS (dO A xs.length c css).v.ownBlock.toList W.w.heap.size W' (dO A xs.length c css) →
      Value.int .i64 r = .int .i64 R.2 ∧ ∃ A' c' css', DPost (dO A xs.length c css) W.w.heap.size W' g A' c' gone R.1 css' := fun r hr W' l h1 h2 => by
    subst hr
    exact ⟨rfl, A, c, css, h1, h2, hL.mono verR.mono l⟩
  refine methOX (o := dO A xs.length c css) hmix Tryz.func6 r6 (by kernel_rfl) hown ho hne [.int .u64 rev, .agg ⟨[.slice a1 n1 d1, .slice a2 n2 d2]⟩] rfl ?_
  refine vc_assoc (vc_cut (fun f' S' => S' = ⟨[(dV (.slice A xs.length c) gone).map .v, [.v (.slice a1 n1 d1), .v (.slice a2 n2 d2)]], [dO A xs.length c css], W⟩ ∧ ¬ (gone < xs.length ∧ (∃ e, xs[xs.length - 1]? = some e ∧ rev ≤ e.rev)) ∧ AllSl f' [(0, .lp 0 0), (1, .v (.int .u64 rev)), (5, .lp 1 0)]) ?_ ?_)
  · refine ⟨rfl, ?_⟩
    apply br_split
    · intro h1
      have h1 : (xs.length : Int) > gone := h1
      obtain ⟨b, rfl, e, b1, m1, e1, b2, m2, e2, hx, _, hrd, _⟩ := ver_at (c := c) hL hat (j := (xs.length : Int) - 1) ⟨by omega, by omega⟩
      have hx : xs[xs.length - 1]? = some e := by rw [← hx]; congr 1; omega
      obtain ⟨er, her⟩ : ∃ er, e.rev = er := ⟨_, rfl⟩
      rw [her] at hrd
      refine ⟨rfl, _, (i64_in ((xs.length : Int) - 1) ⟨by omega, by omega⟩).symm, ⟨by omega, by omega⟩, b, rfl, .int .u64 er, hrd _ 0 rfl, rfl, ?_⟩
      apply br_split
      · intro h2
        have h2 : rev ≤ er := h2
        refine ret_m1own (i := 0) rfl rfl rfl rfl rfl rfl fun W' l2 h3 h4 => stay 12 ?_ W' l2 h3 h4
        rw [hdef, if_pos ⟨by omega, e, hx, by omega⟩]
      · intro h2
        have h2 : ¬ rev ≤ er := h2
        refine ⟨rfl, ?_, ⟨rfl, rfl, rfl, trivial⟩⟩
        rintro ⟨_, e', he', h3⟩
        rw [hx] at he'
        obtain rfl := Option.some.inj he'
        omega
    · intro h1
      have h1 : ¬ (xs.length : Int) > gone := h1
      refine ⟨rfl, ?_, ⟨rfl, rfl, rfl, trivial⟩⟩
      rintro ⟨h3, _⟩
      omega
  rintro f1 S1 ⟨rfl, hnew, hfr⟩
  rw [if_neg hnew] at hdef
  refine vc_at _ hfr ?_
  have hdx := fun W' h => dnumbers_x hT x [.slice a1 n1 d1, .slice a2 n2 d2] W' hok hB h
  rw [(numbers_is hT x).1] at hdx
  refine call_v rfl (fun W' lw => hdx W' (ConfR.mono _ _ _ _ lw hC)) (fun W2 v W3 l2 l3 hv => ?_)
  obtain ⟨u, rfl, _⟩ := hv
  obtain ⟨num, hnum⟩ : ∃ y, (numbersS x).1 = y := ⟨_, rfl⟩
  obtain ⟨code, hcode⟩ : ∃ y, (numbersS x).2 = y := ⟨_, rfl⟩
  rw [hnum] at hdef
  rw [hcode] at hdef ⊢
  have l13 := l2.trans l3
  refine ⟨_, rfl, _, rfl, rfl, ?_⟩
  apply br_nsplit
  · intro h1
    have h1 : ¬ code = 0 := h1
    rw [if_pos h1] at hdef
    exact ret_m1own (i := 0) rfl rfl rfl rfl rfl rfl fun W' l4 h3 h4 => stay code hdef W' (l13.trans l4) h3 h4
  intro h1
  have h1 : code = 0 := h1
  rw [if_neg (fun h => h h1)] at hdef
  obtain ⟨z, hz⟩ : ∃ z, (xs.length : Int) - gone = z := ⟨_, rfl⟩
  refine ⟨rfl, z, by rw [hz, i64_in z ⟨by omega, by omega⟩], rfl, ?_⟩
  apply br_split
  · intro h2
    have h2 : z ≥ 16 := h2
    rw [if_pos (by omega)] at hdef
    exact ret_m1own (i := 0) rfl rfl rfl rfl rfl rfl fun W' l4 h3 h4 => stay 8 hdef W' (l13.trans l4) h3 h4
  intro h2
  have h2 : ¬ z ≥ 16 := h2
  rw [if_neg (by omega)] at hdef
  refine ⟨rfl, .inl ?_⟩
  intro bd Wd ld hrd
  refine ⟨0, _, [.int .u64 rev, .slice a1 n1 d1, .slice a2 n2 d2], rfl, rfl, rfl, rfl, rfl, ?_, fun _ => ⟨_, rfl, hrd.o⟩, by show xs.length + 1 ≤ maxLen; omega, by show (xs.length + 1) * 56 ≤ 140737488355328; omega, rfl, @fun Ae ce _ => ?_⟩
  · intro u hu
    simp only [List.mem_cons, List.not_mem_nil, or_false] at hu
    rcases hu with rfl | rfl | rfl <;> rfl
  refine ret_m1own (i := 0) rfl rfl rfl rfl rfl rfl fun W' l6 h3 h4 => ?_
  subst hdef
  have el : (xs ++ [(⟨rev, x, num⟩ : EntS)]).length = xs.length + 1 := List.length_append
  refine ⟨rfl, Ae, ce, css ++ [[.int .u64 rev, .slice a1 n1 d1, .slice a2 n2 d2]], ?_, ?_, ?_⟩
  · rw [el]; exact h3
  · rw [el]
    have : (css ++ [[Value.int .u64 rev, .slice a1 n1 d1, .slice a2 n2 d2]]).flatten = css.flatten ++ [.int .u64 rev, .slice a1 n1 d1, .slice a2 n2 d2] := by simp
    unfold dO
    rw [this]
    exact h4
  · have lz := l13.trans (ld.trans l6)
    have hRR : verR W' ⟨rev, x, num⟩ [.int .u64 rev, .slice a1 n1 d1, .slice a2 n2 d2] := ⟨_, _, _, _, _, _, rfl, ConfR.mono _ _ _ _ lz hC⟩
    exact LR.snoc rfl hRR (hL.mono verR.mono lz)
/-- The place of what is in force. -/
def atI (gone : Nat) (p : Int) : Int := if p < 0 then 0 else gone + p + 1
set_option maxHeartbeats 8000000 in
theorem dat_x (xs : List EntS) (css : List (List Value)) (A : Option Addr) (c : Nat) (gone : Nat) (rev : Int) (g : Nat) (W : PW) (hp : DPre W g A c gone xs css) (hn : xs.length ≤ 1000) (hgn : gone ≤ xs.length) :
    CallsX Tryz.prog 12 ⟨[.pointer (some ⟨g, 0, none⟩), .int .u64 rev]⟩ (g :: (dO A xs.length c css).v.ownBlock.toList) W fun v W' => v = .int .i64 (atI gone (lastI rev (xs.drop gone) 0 (-1))) ∧ DPost (dO A xs.length c css) W.w.heap.size W' g A c gone xs css := by
  obtain ⟨hown, ho, hne, hL⟩ := hp
  obtain ⟨hat, hnc⟩ := down_at ho
  obtain ⟨R, hR⟩ : ∃ R, lastI rev (xs.drop gone) 0 (-1) = R := ⟨_, rfl⟩
  rw [hR]
  refine methOX (o := dO A xs.length c css) hmix Tryz.func12 r12 (by kernel_rfl) hown ho hne [.int .u64 rev] rfl ?_
  refine ⟨Nat × Int, fun t => [(5, .v (.int .i64 (atI gone t.2))), (6, .v (.int .i64 t.1))], fun _ => [(dV (.slice A xs.length c) gone).map .v], fun _ => [dO A xs.length c css], fun t _ => gone ≤ t.1 ∧ t.1 ≤ xs.length ∧ lastI rev (xs.drop t.1) (t.1 - gone) t.2 = R, fun t => xs.length - t.1, (gone, -1),
    all_sl ⟨rfl, rfl, trivial⟩, rfl, ole_refl _, ⟨Nat.le_refl _, hgn, by dsimp only; rw [Nat.sub_self]; exact hR⟩, loopOK (fun _ => ⟨⟨trivial, rfl⟩, ⟨trivial, rfl⟩, trivial⟩) (fun _ => rfl) (fun _ => rfl), ?_⟩
  rintro ⟨i, p⟩ W2 l2 ⟨hgi, hi, hla⟩ fr
  dsimp only at hgi hi hla
  refine ⟨rfl, ?_⟩
  apply br_split
  · intro h1
    have hq : (i : Int) < xs.length := h1
    have inc := (i64_in ((i : Int) + 1) ⟨by omega, by omega⟩).symm
    obtain ⟨b, rfl, e, a1, n1, c1, a2, n2, c2, hx, _, hrd, _⟩ := ver_at (c := c) hL hat (j := (i : Int)) ⟨by omega, hq⟩
    have hx : xs[i]? = some e := hx
    rw [drop_cons hx] at hla
    have hla : lastI rev (xs.drop (i + 1)) (i - gone + 1) (if e.rev ≤ rev then ((i - gone : Nat) : Int) else p) = R := hla
    rw [show i - gone + 1 = i + 1 - gone by omega] at hla
    obtain ⟨er, her⟩ : ∃ er, e.rev = er := ⟨_, rfl⟩
    rw [her] at hla hrd
    refine ⟨⟨by omega, hq⟩, b, rfl, .int .u64 er, hrd _ 0 rfl, rfl, ?_⟩
    apply br_split
    · intro h2
      have h2 : er ≤ rev := h2
      rw [if_pos h2] at hla
      have e1 : atI gone ((i - gone : Nat) : Int) = IntKind.i64.wrap ((i : Int) + 1) := by
        rw [← inc]
        unfold atI
        rw [if_neg (by omega)]
        omega
      exact ⟨rfl, _, e1, rfl, _, inc, (i + 1, ((i - gone : Nat) : Int)), all_sl ⟨rfl, rfl, trivial⟩, rfl, ole_refl _, ⟨by dsimp only; omega, by dsimp only; omega, hla⟩, by dsimp only; omega⟩
    · intro h2
      have h2 : ¬ er ≤ rev := h2
      rw [if_neg h2] at hla
      exact ⟨rfl, _, inc, (i + 1, p), all_sl ⟨rfl, rfl, trivial⟩, rfl, ole_refl _, ⟨by dsimp only; omega, by dsimp only; omega, hla⟩, by dsimp only; omega⟩
  · intro h1
    have hq : ¬ (i : Int) < xs.length := h1
    have ei : i = xs.length := by omega
    rw [ei, List.drop_length] at hla
    have hla : p = R := hla
    exact ret_m1own (i := 0) rfl rfl rfl rfl rfl rfl fun W' l3 h1 h2 => ⟨by rw [hla], h1, h2, hL.mono verR.mono (l2.trans l3)⟩
end Go.Proofs.YtcgbcbdgjhnlaaaGreat

/- Layer 19 (space), walked: histories that no call made; the law's own history. -/
namespace Go.Proofs.YtcgbcbdgjhnlaaaGreat
open Go.RowKit

theorem no_ok : okCB noConf := ⟨by decide, by decide, fun s h => (by cases h), fun s h => (by cases h)⟩
def oneC : ConfS := (ruleP oneT).1
def bdB (c : ConfS) : Bool := Nat.ble c.spaces.length 1000 && Nat.ble c.scopes.length 1000 && c.spaces.all fun s => Nat.ble s.rels.length 1000 && s.rels.all fun r => Nat.ble r.types.length 1000 && Nat.ble r.nodes.length 1000
theorem bd_of {c : ConfS} (h : bdB c = true) : BdC c := by
  unfold bdB at h
  simp only [Bool.and_eq_true, Nat.ble_eq, List.all_eq_true] at h
  exact ⟨h.1.1, h.1.2, fun s hs => ⟨(h.2 s hs).1, fun r hr => (h.2 s hs).2 r hr⟩⟩
set_option maxRecDepth 20000 in
theorem one_num : (smB oneC && bdB oneC && decide ((numbersS oneC).2 = 0) && decide (oneC.spaces.length = 1)) = true := by decide +kernel
theorem one_ok : okCB oneC := (ruleP_good oneT).b
theorem one_sm : smB oneC = true := by have := one_num; simp only [Bool.and_eq_true] at this; exact this.1.1.1
theorem one_bd : BdC oneC := bd_of (by have := one_num; simp only [Bool.and_eq_true] at this; exact this.1.1.2)
theorem one_z : (numbersS oneC).2 = 0 := by have := one_num; simp only [Bool.and_eq_true, decide_eq_true_eq] at this; exact this.1.2
theorem one_len : oneC.spaces.length = 1 := by have := one_num; simp only [Bool.and_eq_true, decide_eq_true_eq] at this; exact this.2
theorem one_add : addS [] 3 oneC = ([⟨3, oneC, (numbersS oneC).1⟩], 0) := by
  unfold addS
  rw [if_neg (fun ⟨e, h, _⟩ => by simp at h), if_neg (fun h => h one_z), if_neg (by decide)]
  rfl

set_option maxHeartbeats 4000000 in
theorem splives_x (W : PW) : CallsX Tryz.prog 8 ⟨[]⟩ [] W fun v _ => v = .bool true := by
  refine pureNX hmix Tryz.func8 r8 (by kernel_rfl) [nilO 66 4] rfl [] rfl ?_
  refine call_inlP hmix Tryz.func14 r14 (by kernel_rfl) rfl (fun g hg => absurd (show g ∈ ([] : List GV) from hg) (by simp)) (fun rc => ?_)
  refine ⟨Nat.zero_lt_one, ?_⟩
  refine call_v rfl (fun W' _ => one_x W') (fun W1 v W2 l1 l2 hv => ?_)
  obtain ⟨cells, rfl, hC⟩ := hv
  obtain ⟨a1, c1, a2, c2, rfl⟩ := hC.form
  obtain ⟨n1, hn1⟩ : ∃ n, (ruleP oneT).1.spaces.length = n := ⟨_, rfl⟩
  obtain ⟨n2, hn2⟩ : ∃ n, (ruleP oneT).1.scopes.length = n := ⟨_, rfl⟩
  rw [hn1, hn2] at hC ⊢
  refine call_m1O (o := histO none 0 0 []) (i := 0) (xs := histV (.slice none 0 0) 0) rfl rfl rfl rfl rfl rfl k15 (fun g' W3 l3 how hown1 hne1 => (add_x [] [] none 0 0 3 oneC _ g' W3 ⟨how, hown1, hne1, trivial⟩ (by decide) one_ok (fun _ => smC_of one_ok one_sm) one_bd (ConfR.mono _ _ _ _ l3 hC)).mono fun v W4 ⟨hv, A', c', css', hp⟩ l4 => ⟨_, _, hp.own, hp.ho, ?_⟩)
  have hL := hp.lr
  rw [one_add] at hv hL ⊢
  obtain ⟨num, hnum⟩ : ∃ y, (numbersS oneC).1 = y := ⟨_, rfl⟩
  rw [hnum] at hL ⊢
  have hL : LR entR 4 W4 [⟨3, oneC, num⟩] css' := hL
  subst hv
  refine ⟨rfl, ?_⟩
  refine call_m1O (o := histO A' 1 c' css') (i := 0) (xs := histV (.slice A' 1 c') 0) rfl rfl rfl rfl rfl rfl k11 (fun g' W5 l5 how hown1 hne1 => (at_x [⟨3, oneC, num⟩] css' A' c' 0 3 g' W5 ⟨how, hown1, hne1, hL.mono entR.mono l5⟩ (by show 1 ≤ 1000; decide) (by decide) (fun e he => by rw [List.mem_singleton.1 he]; exact one_bd)).mono fun v W6 ⟨⟨cells, hv, hC2⟩, hp⟩ l6 => ⟨_, _, hp.own, hp.ho, ?_⟩)
  rw [show atS [⟨3, oneC, num⟩] 0 3 = (oneC, 1) from rfl] at hv hC2
  obtain ⟨b1, d1, b2, d2, rfl⟩ := hC2.form
  subst hv
  rw [one_len]
  obtain ⟨m2, hm2⟩ : ∃ n, oneC.scopes.length = n := ⟨_, rfl⟩
  rw [hm2]
  refine ⟨_, rfl, _, rfl, rfl, rfl, ?_⟩
  exact ret_plain rfl fun _ _ => rfl

end Go.Proofs.YtcgbcbdgjhnlaaaGreat
