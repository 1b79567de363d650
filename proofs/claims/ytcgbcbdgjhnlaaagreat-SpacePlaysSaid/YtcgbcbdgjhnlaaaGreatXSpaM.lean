/- Layer 19 (space), walked: the document's Collect; the numbers of what is in force. No statement is proved here. -/
import Derived.Test.YtcgbcbdgjhnlaaaGreatXSpaJ
namespace Go.Proofs.YtcgbcbdgjhnlaaaGreat
open Go.RowKit

structure DcSt where
  j : Nat
set_option maxHeartbeats 8000000 in
theorem dcoll_x (ys : List EntS) (css : List (List Value)) (A : Option Addr) (c : Nat) (gone : Nat) (rev : Int) (g : Nat) (W : PW) (hp : DPre W g A c gone ys css) (hn : ys.length ≤ 1000) (hgn : gone ≤ ys.length) :
    CallsX Tryz.prog 17 ⟨[.pointer (some ⟨g, 0, none⟩), .int .u64 rev]⟩ (g :: (dO A ys.length c css).v.ownBlock.toList) W fun v W' => v = .tuple ⟨[]⟩ ∧ ∃ j : Nat, collS rev (ys.drop gone) gone = (ys.drop j, (j : Int)) ∧ gone ≤ j ∧ j ≤ ys.length ∧ DPost (dO A ys.length c css) W.w.heap.size W' g A c j ys css := by
  obtain ⟨hown, ho, hne, hL⟩ := hp
  obtain ⟨hat, hnc⟩ := down_at ho
  refine methOX (o := dO A ys.length c css) hmix Tryz.func17 r17 (by kernel_rfl) hown ho hne [.int .u64 rev] rfl ?_
  refine ⟨DcSt, fun _ => [], fun t => [(dV (.slice A ys.length c) t.j).map .v], fun _ => [dO A ys.length c css], fun t _ => gone ≤ t.j ∧ t.j ≤ ys.length ∧ collS rev (ys.drop gone) gone = collS rev (ys.drop t.j) t.j, fun t => ys.length - t.j, ⟨gone⟩,
    all_sl trivial, rfl, ole_refl _, ⟨Nat.le_refl _, hgn, rfl⟩, loopOK (fun _ => trivial) (fun _ => rfl) (fun _ => rfl), ?_⟩
  rintro ⟨j⟩ W2 l2 ⟨hgj, hj, hcoll⟩ fr
  dsimp only at hgj hj hcoll
  have inc : ((j + 1 : Nat) : Int) = IntKind.i64.wrap ((j : Int) + 1) := by rw [i64_in ((j : Int) + 1) ⟨by omega, by omega⟩]; omega
  have hget : (ys.drop j)[1]? = ys[j + 1]? := by rw [List.getElem?_drop]
  have stop : (∀ e, ys[j + 1]? = some e → ¬ e.rev ≤ rev) → ∀ W', W2.Le W' → OwnB W' g (dV (.slice A ys.length c) j) → OwnS (dO A ys.length c css).v.ownBlock.toList W.w.heap.size W' (dO A ys.length c css) →
      Value.tuple ⟨[]⟩ = .tuple ⟨[]⟩ ∧ ∃ j : Nat, collS rev (ys.drop gone) gone = (ys.drop j, (j : Int)) ∧ gone ≤ j ∧ j ≤ ys.length ∧ DPost (dO A ys.length c css) W.w.heap.size W' g A c j ys css := fun hs W' l h3 h4 =>
    ⟨rfl, j, by rw [hcoll, collS_stop (by rw [hget]; exact hs)], hgj, hj, h3, h4, hL.mono verR.mono (l2.trans l)⟩
  refine ⟨rfl, ((j + 1 : Nat) : Int), inc, rfl, ?_⟩
  apply br_split
  · intro h1
    have h1 : ((j + 1 : Nat) : Int) < ys.length := h1
    obtain ⟨b, rfl, e, a1, n1, c1, a2, n2, c2, hx, _, hrd, _⟩ := ver_at (c := c) hL hat (j := ((j + 1 : Nat) : Int)) ⟨by omega, h1⟩
    have hx : ys[j + 1]? = some e := hx
    obtain ⟨er, her⟩ : ∃ er, e.rev = er := ⟨_, rfl⟩
    rw [her] at hrd
    refine ⟨rfl, ((j + 1 : Nat) : Int), inc, ⟨by omega, h1⟩, b, rfl, .int .u64 er, hrd _ 0 rfl, rfl, ?_⟩
    apply br_split
    · intro h2
      have h2 : er ≤ rev := h2
      rw [collS_go (hget.trans hx) (by omega), List.drop_drop] at hcoll
      refine ⟨rfl, ((j + 1 : Nat) : Int), inc, ⟨j + 1⟩, all_sl trivial, rfl, ole_refl _, ⟨by dsimp only; omega, by dsimp only; omega, hcoll⟩, by dsimp only; omega⟩
    · intro h2
      have h2 : ¬ er ≤ rev := h2
      refine ret_m1own (i := 0) rfl rfl rfl rfl rfl rfl fun W' l3 h3 h4 => stop ?_ W' l3 h3 h4
      intro e' he'
      rw [hx] at he'
      obtain rfl := Option.some.inj he'
      omega
  · intro h1
    have h1 : ¬ ((j + 1 : Nat) : Int) < ys.length := h1
    refine ret_m1own (i := 0) rfl rfl rfl rfl rfl rfl fun W' l3 h3 h4 => stop ?_ W' l3 h3 h4
    intro e' he'
    have := (List.getElem?_eq_some_iff.1 he').1
    omega

def numAt (xs : List EntS) (rev : Int) : Num := if lastI rev xs 0 (-1) < 0 then [] else ((xs[(lastI rev xs 0 (-1)).toNat]?).map (·.num)).getD []
theorem natC_one (x : Nat) : ∀ u ∈ natC x, u.oneCell' = true := fun u hu => by rw [List.mem_singleton.1 hu]; rfl
theorem clonei_x (l : List Nat) (v : Value) (W : PW) (hn : l.length ≤ 1000) (h : RP natC W v l) : CallsX Tryz.prog 44 ⟨[v]⟩ [] W fun u W' => RP natC W' u l :=
  clone_x (t := 91) (e := 3) (sz := 1) (bytes := 8) hmix Tryz.underlying91 (info_some 3 (by kernel_rfl)).choose_spec Tryz.func44 r44 (by kernel_rfl) h (one_flat natC_one l) (len_flat (f := natC) (sz := 1) (fun _ => rfl) l) (by omega) (by decide)
structure HnSt where
  i : Nat
  A : Option Addr
  c : Nat
  css : List (List Value)
set_option maxHeartbeats 8000000 in
theorem hnum_x (xs : List EntS) (css : List (List Value)) (A : Option Addr) (c : Nat) (gone rev : Int) (g : Nat) (W : PW) (hp : HPre W g A c gone xs css) (hn : xs.length ≤ 1000) (hB : ∀ e ∈ xs, e.num.length ≤ 1000 ∧ ∀ r ∈ e.num, r.length ≤ 1000) :
    CallsX Tryz.prog 29 ⟨[.pointer (some ⟨g, 0, none⟩), .int .u64 rev]⟩ (g :: (histO A xs.length c css).v.ownBlock.toList) W fun v W' => NumR W' v (numAt xs rev) ∧ HPost (histO A xs.length c css) W.w.heap.size W' g A c gone xs css := by
  obtain ⟨hown, ho, hne, hL⟩ := hp
  obtain ⟨hat, hnc⟩ := own_at ho
  have hmax := maxLen_big
  refine methOX (o := histO A xs.length c css) hmix Tryz.func29 r29 (by kernel_rfl) hown ho hne [.int .u64 rev] rfl ?_
  refine call_m1O (i := 0) rfl rfl rfl rfl rfl rfl k24 (fun g' W1 l1 how hown1 hne1 => (last_x xs css A c gone rev g' W1 ⟨how, hown1, hne1, hL.mono entR.mono l1⟩ hn).mono fun v W2 ⟨hv, hb2, ho2⟩ l2 => ⟨_, _, hb2, ho2, ?_⟩)
  have l12 := l1.trans l2
  have hL2 := hL.mono entR.mono l12
  obtain ⟨p, hpv, rfl⟩ : ∃ p, lastI rev xs 0 (-1) = p ∧ v = .int .i64 p := ⟨_, rfl, hv⟩
  refine ⟨rfl, ?_⟩
  apply br_split
  · intro h1
    have h1 : p < 0 := h1
    refine ret_m1own (i := 0) rfl rfl rfl rfl rfl rfl fun W' l3 h1' h2' => ⟨?_, h1', h2', hL2.mono entR.mono l3⟩
    unfold numAt
    rw [if_pos (by omega)]
    exact ⟨[], trivial, SlRead.nil W' _⟩
  · intro h1
    have h1 : ¬ p < 0 := h1
    rcases lastI_in (rev := rev) xs 0 (-1) with h2 | ⟨j, e0, hx, _, hj⟩
    · omega
    obtain rfl : p = j := by rw [← hpv, hj, Nat.zero_add]
    have hjl : j < xs.length := (List.getElem?_eq_some_iff.1 hx).1
    obtain ⟨b, rfl, e, a1, n1, c1, a2, n2, c2, a3, n3, c3, hx', _, hN, _, _, _, hrd⟩ := hist_at (c := c) hL2 hat (j := j) ⟨by omega, by omega⟩
    have hx' : xs[j]? = some e := hx'
    obtain ⟨hb1, hb2⟩ := hB e (List.mem_of_getElem? hx')
    have hna : numAt xs rev = e.num := by
      unfold numAt
      rw [hpv, if_neg (by omega), Int.toNat_natCast, hx']; rfl
    obtain ⟨num, hnum⟩ : ∃ num, e.num = num := ⟨_, rfl⟩
    rw [hnum] at hN hb1 hb2 hna
    obtain ⟨A4, c4, e4, _, _⟩ := RL.form hN
    simp only [Value.slice.injEq] at e4
    obtain ⟨rfl, rfl, rfl⟩ := e4
    refine ⟨⟨by omega, by omega⟩, b, rfl, .slice a3 num.length c3, hrd _ 0 rfl, ?_⟩
    refine ⟨HnSt, fun t => [(6, .v (.slice t.A t.i t.c)), (23, .v (.int .i64 t.i))], fun _ => [(histV (.slice (some b) xs.length c) gone).map .v], fun t => [histO (some b) xs.length c css, outR t.A t.i t.c t.css], fun t W' => t.i ≤ num.length ∧ LR RowR 1 W' (num.take t.i) t.css, fun t => num.length - t.i, ⟨0, none, 0, []⟩,
      all_sl ⟨rfl, rfl, trivial⟩, rfl, ole_ins 91 1, ⟨Nat.zero_le _, trivial⟩, loopOK (fun _ => ⟨⟨trivial, rfl⟩, ⟨trivial, rfl⟩, trivial⟩) (fun _ => rfl) (fun _ => rfl), ?_⟩
    rintro ⟨i, D, d, rss⟩ W3 l3 ⟨hi, hR⟩ fr
    dsimp only at hi hR
    refine ⟨rfl, ?_⟩
    apply br_split
    · intro h3
      have hq : (i : Int) < num.length := h3
      obtain ⟨p1, rfl, r, cs1, hr, _, ⟨u1, rfl, hu1⟩, _, hd1⟩ := RL.at RowR.mono hN l3 (j := (i : Int)) ⟨by omega, hq⟩
      have hr : num[i]? = some r := hr
      have hrl := hb2 r (List.mem_of_getElem? hr)
      obtain ⟨b1, d1, rfl, _, _⟩ := hu1.form
      have hx1 : Rd W3 (p1.add ((i : Int).toNat * 1)) (.slice b1 r.length d1) := by have h := hd1 0 _ rfl; rw [Addr.add_add] at h; exact h
      refine ⟨⟨by omega, hq⟩, p1, rfl, .slice b1 r.length d1, hx1.o, ?_⟩
      refine call_v rfl (fun W' lw => clonei_x r _ W' hrl (hu1.mono lw)) (fun W4 v W5 l4 l5 hv => ?_)
      obtain ⟨b2, d2, rfl, _, _⟩ := hv.form
      refine ⟨rfl, .inl ?_⟩
      intro bd Wd ld hrdd
      refine ⟨1, _, [.slice b2 r.length d2], rfl, rfl, rfl, rfl, rfl, (fun u hu => by rw [List.mem_singleton.1 hu]; rfl), fun _ => ⟨_, rfl, hrdd.o⟩, by show i + 1 ≤ maxLen; omega, by show (i + 1) * 24 ≤ 140737488355328; omega, rfl, @fun Ae ce _ => ?_⟩
      refine ⟨rfl, _, (i64_in ((i : Int) + 1) ⟨by omega, by omega⟩).symm, ⟨i + 1, Ae, ce, rss ++ [[.slice b2 r.length d2]]⟩, all_sl ⟨rfl, rfl, trivial⟩, rfl, ole_eq ?_, ⟨by dsimp only; omega, ?_⟩, by dsimp only; omega⟩
      · have : (rss ++ [[Value.slice b2 r.length d2]]).flatten = rss.flatten ++ [.slice b2 r.length d2] := by simp
        unfold outR
        dsimp only
        rw [this]
        rfl
      · have : num.take (i + 1) = num.take i ++ [r] := by rw [List.take_add_one, hr]; rfl
        dsimp only
        rw [this]
        have hRR : RowR Wd r [.slice b2 r.length d2] := ⟨_, rfl, hv.mono ld⟩
        exact LR.snoc rfl hRR (hR.mono RowR.mono (l4.trans (l5.trans ld)))
    · intro h3
      have hq : ¬ (i : Int) < num.length := h3
      have ei : i = num.length := by omega
      rw [ei, List.take_length] at hR
      refine RetVC.freeze2 (i := 1) rfl (fun b hb => ?_) fun W4 l4 hfr => ?_
      · rcases List.mem_cons.1 hb with rfl | hb
        · exact .inl (List.mem_cons_self ..)
        · exact .inr ⟨0, _, by decide, rfl, by simpa using hb⟩
      refine ret_m1own (i := 0) rfl rfl rfl rfl rfl rfl fun W' l5 h3 h4 => ⟨?_, h3, h4, hL2.mono entR.mono (l3.trans (l4.trans l5))⟩
      rw [hna]
      have h5 : SlRead W' (.slice D i d) i rss.flatten := SlRead.mono hfr l5
      rw [ei] at h5 ⊢
      exact ⟨rss, hR.mono RowR.mono (l4.trans l5), h5⟩
end Go.Proofs.YtcgbcbdgjhnlaaaGreat
