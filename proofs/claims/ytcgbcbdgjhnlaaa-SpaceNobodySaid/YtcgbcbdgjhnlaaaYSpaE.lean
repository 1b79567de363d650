/- Layer 19 (space), walked: Collect, List. No statement is proved here. -/
import Derived.Test.YtcgbcbdgjhnlaaaYSpaD
namespace Go.Proofs.Ytcgbcbdgjhnlaaa
open Go.RowKit

theorem collS_go {rev : Int} {xs : List EntS} {e : EntS} {g : Int} (h : xs[1]? = some e) (hr : e.rev ≤ rev) : collS rev xs g = collS rev (xs.drop 1) (g + 1) := by
  match xs, h with
  | e0 :: e1 :: r, h =>
    obtain rfl : e1 = e := Option.some.inj h
    show (if e1.rev ≤ rev then collS rev (e1 :: r) (g + 1) else _) = _
    rw [if_pos hr]; rfl
theorem collS_stop {rev : Int} {xs : List EntS} {g : Int} (h : ∀ e, xs[1]? = some e → ¬ e.rev ≤ rev) : collS rev xs g = (xs, g) := by
  match xs, h with
  | [], _ => rfl
  | [_], _ => rfl
  | e0 :: e1 :: r, h =>
    show (if e1.rev ≤ rev then collS rev (e1 :: r) (g + 1) else _) = _
    rw [if_neg (h e1 rfl)]
theorem LR.drop1 {W : PW} {xs : List EntS} {css : List (List Value)} (h : LR entR 4 W xs css) : LR entR 4 W (xs.drop 1) (css.drop 1) ∧ (0 < xs.length → css.flatten.drop 4 = (css.drop 1).flatten) := by
  match xs, css, h with
  | [], [], _ => exact ⟨trivial, fun h => absurd h (Nat.lt_irrefl 0)⟩
  | x :: xs, c :: cs, h =>
    obtain ⟨⟨h1, _⟩, h3⟩ := h
    refine ⟨h3, fun _ => ?_⟩
    rw [List.flatten_cons, List.drop_left' h1]; rfl
theorem sub_read {W : PW} {A : Option Addr} {n c sz : Nat} {cs : List Value} (h : SlRead W (.slice A n c) n cs) (h2 : 2 ≤ n) :
    SlRead W (.slice (if c = (1 : Int).toNat then A else A.map (·.add ((1 : Int).toNat * sz))) ((n : Int).toNat - (1 : Int).toNat) (c - (1 : Int).toNat)) (n - 1) (cs.drop sz) := by
  obtain ⟨A', c', e, h3, h4, h5⟩ := h
  simp only [Value.slice.injEq, true_and] at e
  obtain ⟨rfl, rfl⟩ := e
  obtain ⟨a, rfl, hr⟩ := h5 (by omega)
  have hc : ¬ c = (1 : Int).toNat := by show ¬ c = 1; omega
  refine ⟨_, _, rfl, by show n - 1 ≤ c - 1; omega, by show c - 1 ≤ maxLen; omega, fun _ => ⟨a.add ((1 : Int).toNat * sz), by rw [if_neg hc]; rfl, ?_⟩⟩
  have := hr.drop sz
  rw [show (1 : Int).toNat * sz = sz from Nat.one_mul sz]
  exact this

structure ClSt where
  n : Nat
  xs : List EntS
  A : Option Addr
  c : Nat
  css : List (List Value)
  gone : Int
def CloR (n : Nat) (css : List (List Value)) (v : Value) (o : Own) : Prop := ∃ A' c', v = .slice A' n c' ∧ o = histO A' n c' css ∧ OwnAt A' n ∧ n ≤ c'
theorem OLe.second {a b : Own} : OLe [a, b] [b] := List.filter_sublist.trans (List.sublist_cons_self _ _)

set_option maxHeartbeats 8000000 in
theorem collect_x (xs : List EntS) (css : List (List Value)) (A : Option Addr) (c : Nat) (gone rev : Int) (g : Nat) (W : PW) (hp : HPre W g A c gone xs css) (hn : xs.length ≤ 1000) (hg : 0 ≤ gone ∧ gone ≤ 1000000) :
    CallsX Try.prog 75 ⟨[.pointer (some ⟨g, 0, none⟩), .int .u64 rev]⟩ (g :: (histO A xs.length c css).v.ownBlock.toList) W fun v W' => v = .tuple ⟨[]⟩ ∧ ∃ A' c' css', HPost (histO A xs.length c css) W.w.heap.size W' g A' c' (collS rev xs gone).2 (collS rev xs gone).1 css' := by
  obtain ⟨hown, ho, hne, hL⟩ := hp
  obtain ⟨hat, hnc⟩ := own_at ho
  refine methOX (o := histO A xs.length c css) hmix Try.func75 r75 (by kernel_rfl) hown ho hne [.int .u64 rev] rfl ?_
  refine call_made rfl rfl rfl (fun W1 l1 => ?_)
  refine ⟨ClSt, fun _ => [], fun t => [(histV (.slice t.A t.n t.c) t.gone).map .v], fun t => [histO t.A t.n t.c t.css], fun t W' => t.n = t.xs.length ∧ LR entR 4 W' t.xs t.css ∧ OwnAt t.A t.n ∧ t.n ≤ t.c ∧ 0 ≤ t.gone ∧ t.n + t.gone ≤ 1001000 ∧ t.n ≤ 1000 ∧ collS rev xs gone = collS rev t.xs t.gone, fun t => t.n, ⟨xs.length, xs, A, c, css, gone⟩,
    all_sl trivial, rfl, ole_refl _, ⟨rfl, hL.mono entR.mono l1, hat, hnc, hg.1, by dsimp only; omega, hn, rfl⟩, loopOK (fun _ => trivial) (fun _ => rfl) (fun _ => rfl), ?_⟩
  rintro ⟨n, ys, D, d, yss, gn⟩ W2 l2 ⟨hny, hLy, hatD, hnd, hg0, hgn, hn1, hcoll⟩ fr
  dsimp only at hny hLy hatD hnd hg0 hgn hn1 hcoll
  have stop : (∀ e, ys[1]? = some e → ¬ e.rev ≤ rev) → ∀ W', W2.Le W' → OwnB W' g (histV (.slice D n d) gn) → OwnS (histO A xs.length c css).v.ownBlock.toList W.w.heap.size W' (histO D n d yss) →
      Value.tuple ⟨[]⟩ = .tuple ⟨[]⟩ ∧ ∃ A' c' css', HPost (histO A xs.length c css) W.w.heap.size W' g A' c' (collS rev xs gone).2 (collS rev xs gone).1 css' := fun hs W' l h3 h4 => by
    rw [hcoll, collS_stop hs]
    refine ⟨rfl, D, d, yss, ?_, ?_, hLy.mono entR.mono l⟩
    · rw [← hny]; exact h3
    · rw [← hny]; exact h4
  refine ⟨rfl, ?_⟩
  apply br_split
  · intro h1
    have h1 : (1 : Int) < n := h1
    rw [hny] at hatD
    obtain ⟨b, rfl, e, b1, m1, e1, b2, m2, e2, b3, m3, e3, hx, _, _, _, hrd, _⟩ := hist_at (c := d) hLy hatD (j := 1) ⟨by omega, by omega⟩
    rw [← hny] at hatD hrd
    have hx : ys[1]? = some e := hx
    refine ⟨⟨by decide, h1⟩, b, rfl, .int .u64 e.rev, hrd _ 0 rfl, rfl, ?_⟩
    obtain ⟨er, her⟩ : ∃ er, e.rev = er := ⟨_, rfl⟩
    rw [her]
    apply br_split
    · intro h2
      have h2 : er ≤ rev := h2
      rw [collS_go hx (by omega)] at hcoll
      refine ⟨⟨by decide, by show (1 : Int) ≤ (n : Int); omega, by show ((n : Nat) : Int) ≤ ((d : Nat) : Int); omega⟩, ?_⟩
      obtain ⟨hL1, hfl⟩ := hLy.drop1
      refine call_roOwn (CloR (n - 1) (yss.drop 1)) rfl k125 (fun W' lw hall => ?_) (fun v o W3 l3 hv => ?_)
      · have hs := sub_read (sz := 4) (hall 0 _ rfl) (by show 2 ≤ n; omega)
        have hs : SlRead W' _ (n - 1) (yss.flatten.drop 4) := hs
        rw [hfl (by omega)] at hs
        have hlen := (LR.len hL1).2
        rw [List.length_drop, ← hny] at hlen
        exact (cloneo_x (t := 130) (e := 196) (sz := 4) (bytes := 80) hmix Try.underlying130 (info_some 196 (by kernel_rfl)).choose_spec Try.func125 r125 (by kernel_rfl) hs (entC_one hL1) hlen (by omega) (by decide)).mono fun u W'' ⟨o, hoo, A', c', hu, hoe⟩ => by
          subst hu
          subst hoe
          have := own_at (A := A') (n := n - 1) (c := c') (css := yss.drop 1) hoo
          exact ⟨_, hoo, A', c', rfl, rfl, this.1, this.2⟩
      obtain ⟨A', c', rfl, rfl, hat', hnc'⟩ := hv
      refine ⟨rfl, _, (i64_in (gn + 1) ⟨by omega, by omega⟩).symm, ⟨n - 1, ys.drop 1, A', c', yss.drop 1, gn + 1⟩, all_sl trivial, rfl, OLe.second, ⟨by dsimp only; rw [List.length_drop, hny], hL1.mono entR.mono l3, hat', hnc', by dsimp only; omega, by dsimp only; omega, by dsimp only; omega, hcoll⟩, by dsimp only; omega⟩
    · intro h2
      have h2 : ¬ er ≤ rev := h2
      refine ret_m1own (i := 0) rfl rfl rfl rfl rfl rfl fun W' l3 h3 h4 => stop ?_ W' l3 h3 h4
      intro e' he'
      rw [hx] at he'
      obtain rfl := Option.some.inj he'
      omega
  · intro h1
    have h1 : ¬ (1 : Int) < n := h1
    refine ret_m1own (i := 0) rfl rfl rfl rfl rfl rfl fun W' l3 h3 h4 => stop ?_ W' l3 h3 h4
    intro e' he'
    have := (List.getElem?_eq_some_iff.1 he').1
    omega

def verR (W : PW) (e : EntS) (cs : List Value) : Prop := ∃ a1 n1 c1 a2 n2 c2, cs = [.int .u64 e.rev, .slice a1 n1 c1, .slice a2 n2 c2] ∧ ConfR W e.c [.slice a1 n1 c1, .slice a2 n2 c2]
theorem verR.mono (W W' : PW) (e : EntS) (cs : List Value) (l : W.Le W') (h : verR W e cs) : verR W' e cs := let ⟨a1, n1, c1, a2, n2, c2, e1, h1⟩ := h; ⟨a1, n1, c1, a2, n2, c2, e1, ConfR.mono _ _ _ _ l h1⟩
def verO (A : Option Addr) (n c : Nat) (css : List (List Value)) : Own := ⟨.slice A n c, 127, 3, n, css.flatten⟩
structure LsSt where
  i : Nat
  A : Option Addr
  c : Nat
  vss : List (List Value)
set_option maxHeartbeats 8000000 in
theorem list_x (xs : List EntS) (css : List (List Value)) (A : Option Addr) (c : Nat) (gone : Int) (g : Nat) (W : PW) (hp : HPre W g A c gone xs css) (hn : xs.length ≤ 1000) (hB : ∀ e ∈ xs, BdC e.c) :
    CallsX Try.prog 73 ⟨[.pointer (some ⟨g, 0, none⟩)]⟩ (g :: (histO A xs.length c css).v.ownBlock.toList) W fun v W' => RL verR 3 W' v xs ∧ HPost (histO A xs.length c css) W.w.heap.size W' g A c gone xs css := by
  obtain ⟨hown, ho, hne, hL⟩ := hp
  obtain ⟨hat, hnc⟩ := own_at ho
  have hmax := maxLen_big
  refine methOX (o := histO A xs.length c css) hmix Try.func73 r73 (by kernel_rfl) hown ho hne [] rfl ?_
  refine call_made rfl rfl rfl (fun W1 l1 => ?_)
  refine ⟨LsSt, fun t => [(3, .v (.slice t.A t.i t.c)), (14, .v (.int .i64 t.i))], fun _ => [(histV (.slice A xs.length c) gone).map .v], fun t => [histO A xs.length c css, verO t.A t.i t.c t.vss], fun t W' => t.i ≤ xs.length ∧ LR verR 3 W' (xs.take t.i) t.vss, fun t => xs.length - t.i, ⟨0, none, 0, []⟩,
    all_sl ⟨rfl, rfl, trivial⟩, rfl, ole_ins 127 3, ⟨Nat.zero_le _, trivial⟩, loopOK (fun _ => ⟨⟨trivial, rfl⟩, ⟨trivial, rfl⟩, trivial⟩) (fun _ => rfl) (fun _ => rfl), ?_⟩
  rintro ⟨i, D, d, vss⟩ W2 l2 ⟨hi, hV⟩ fr
  dsimp only at hi hV
  refine ⟨rfl, ?_⟩
  apply br_split
  · intro h1
    have hq : (i : Int) < xs.length := h1
    obtain ⟨b, rfl, e, a1, n1, c1, a2, n2, c2, a3, n3, c3, hx, hC, _, hrd, _⟩ := hist_at (c := c) (hL.mono entR.mono (l1.trans l2)) hat (j := i) ⟨by omega, hq⟩
    have hx : xs[i]? = some e := hx
    have hbe := hB e (List.mem_of_getElem? hx)
    refine ⟨⟨by omega, hq⟩, b, rfl, [.int .u64 e.rev, .slice a1 n1 c1, .slice a2 n2 c2, .slice a3 n3 c3], rfl, hrd _ 0 rfl, ?_⟩
    obtain ⟨er, her⟩ : ∃ er, e.rev = er := ⟨_, rfl⟩
    rw [her]
    refine call_v rfl (fun W' lw => copied_x e.c _ W' hbe (ConfR.mono _ _ _ _ lw hC)) (fun W3 v W4 l3 l4 hv => ?_)
    obtain ⟨cells, rfl, hC2⟩ := hv
    obtain ⟨m1, hm1⟩ : ∃ m, e.c.spaces.length = m := ⟨_, rfl⟩
    obtain ⟨m2, hm2⟩ : ∃ m, e.c.scopes.length = m := ⟨_, rfl⟩
    obtain ⟨b1, d1, b2, d2, rfl⟩ := hC2.form
    rw [hm1, hm2] at hC2 ⊢
    refine ⟨rfl, .inl ?_⟩
    intro bd Wd ld hrdd
    refine ⟨1, _, [.int .u64 er, .slice b1 m1 d1, .slice b2 m2 d2], rfl, rfl, rfl, rfl, rfl, ?_, fun _ => ⟨_, rfl, hrdd.o⟩, by show i + 1 ≤ maxLen; omega, by show (i + 1) * 56 ≤ 140737488355328; omega, rfl, @fun Ae ce _ => ?_⟩
    · intro u hu
      simp only [List.mem_cons, List.not_mem_nil, or_false] at hu
      rcases hu with rfl | rfl | rfl <;> rfl
    refine ⟨rfl, _, (i64_in ((i : Int) + 1) ⟨by omega, by omega⟩).symm, ⟨i + 1, Ae, ce, vss ++ [[.int .u64 er, .slice b1 m1 d1, .slice b2 m2 d2]]⟩, all_sl ⟨rfl, rfl, trivial⟩, rfl, ole_eq ?_, ⟨by dsimp only; omega, ?_⟩, by dsimp only; omega⟩
    · have : (vss ++ [[Value.int .u64 er, .slice b1 m1 d1, .slice b2 m2 d2]]).flatten = vss.flatten ++ [.int .u64 er, .slice b1 m1 d1, .slice b2 m2 d2] := by simp
      unfold verO
      dsimp only
      rw [this]
      rfl
    · have : xs.take (i + 1) = xs.take i ++ [e] := by rw [List.take_add_one, hx]; rfl
      dsimp only
      rw [this]
      have hRR : verR Wd e [.int .u64 er, .slice b1 m1 d1, .slice b2 m2 d2] := ⟨_, _, _, _, _, _, by rw [her], ConfR.mono _ _ _ _ ld hC2⟩
      exact LR.snoc rfl hRR (hV.mono verR.mono (l3.trans (l4.trans ld)))
  · intro h1
    have hq : ¬ (i : Int) < xs.length := h1
    have ei : i = xs.length := by omega
    rw [ei, List.take_length] at hV
    refine RetVC.freeze2 (i := 1) rfl (fun b hb => ?_) fun W3 l3 hfr => ?_
    · rcases List.mem_cons.1 hb with rfl | hb
      · exact .inl (List.mem_cons_self ..)
      · exact .inr ⟨0, _, by decide, rfl, by simpa using hb⟩
    refine ret_m1own (i := 0) rfl rfl rfl rfl rfl rfl fun W' l4 h3 h4 => ⟨⟨vss, hV.mono verR.mono (l3.trans l4), ?_⟩, h3, h4, hL.mono entR.mono (l1.trans (l2.trans (l3.trans l4)))⟩
    have h5 : SlRead W' (.slice D i d) i vss.flatten := SlRead.mono hfr l4
    rw [← ei]; exact h5
end Go.Proofs.Ytcgbcbdgjhnlaaa

