/- Layer 19 (space), walked: a history's memory; Made, last, At, Gone. No statement is proved here. -/
import Derived.Test.YtcgbcbdgjhnlaaaYSpaB
namespace Go.Proofs.Ytcgbcbdgjhnlaaa
open Go.RowKit

structure EntS where
  rev : Int
  c : ConfS
  num : Num
def entR (W : PW) (e : EntS) (cs : List Value) : Prop := ∃ sv kv nv, cs = [.int .u64 e.rev, sv, kv, nv] ∧ ConfR W e.c [sv, kv] ∧ NumR W nv e.num
theorem NumR.mono {W W' : PW} {v : Value} {n : Num} (h : NumR W v n) (l : W.Le W') : NumR W' v n := RL.mono (fun _ _ _ _ l h => let ⟨u, e, h⟩ := h; ⟨u, e, h.mono l⟩) l h
theorem entR.mono (W W' : PW) (e : EntS) (cs : List Value) (l : W.Le W') (h : entR W e cs) : entR W' e cs := let ⟨sv, kv, nv, e1, h1, h2⟩ := h; ⟨sv, kv, nv, e1, ConfR.mono _ _ _ _ l h1, h2.mono l⟩
theorem ConfR.form {W : PW} {x : ConfS} {cs : List Value} (h : ConfR W x cs) : ∃ a1 c1 a2 c2, cs = [.slice a1 x.spaces.length c1, .slice a2 x.scopes.length c2] := by
  obtain ⟨sv, kv, rfl, hS, hK⟩ := h
  obtain ⟨a1, c1, rfl, _, _⟩ := hS.form
  obtain ⟨a2, c2, rfl, _, _⟩ := hK.form
  exact ⟨_, _, _, _, rfl⟩
theorem entR.form {W : PW} {e : EntS} {cs : List Value} (h : entR W e cs) : ∃ a1 n1 c1 a2 n2 c2 a3 n3 c3, cs = [.int .u64 e.rev, .slice a1 n1 c1, .slice a2 n2 c2, .slice a3 n3 c3] ∧ ConfR W e.c [.slice a1 n1 c1, .slice a2 n2 c2] ∧ NumR W (.slice a3 n3 c3) e.num := by
  obtain ⟨sv, kv, nv, rfl, hC, hN⟩ := h
  obtain ⟨a1, c1, a2, c2, e⟩ := hC.form
  simp only [List.cons.injEq, and_true] at e
  obtain ⟨rfl, rfl⟩ := e
  obtain ⟨a3, c3, rfl, _, _⟩ := RL.form hN
  exact ⟨_, _, _, _, _, _, _, _, _, rfl, hC, hN⟩
def histV (v : Value) (gone : Int) : List Value := [.bool true, v, .int .i64 gone]
def histO (A : Option Addr) (n c : Nat) (css : List (List Value)) : Own := ⟨.slice A n c, 196, 4, n, css.flatten⟩
/-- What a method that is lent a history finds. -/
structure HPre (W : PW) (g : Nat) (A : Option Addr) (c : Nat) (gone : Int) (xs : List EntS) (css : List (List Value)) : Prop where
  own : OwnB W g (histV (.slice A xs.length c) gone)
  ho : OwnS (histO A xs.length c css).v.ownBlock.toList W.w.heap.size W (histO A xs.length c css)
  ne : g ∉ (histO A xs.length c css).v.ownBlock.toList
  lr : LR entR 4 W xs css
/-- What it leaves. -/
structure HPost (o : Own) (n₀ : Nat) (W : PW) (g : Nat) (A : Option Addr) (c : Nat) (gone : Int) (xs : List EntS) (css : List (List Value)) : Prop where
  own : OwnB W g (histV (.slice A xs.length c) gone)
  ho : OwnS o.v.ownBlock.toList n₀ W (histO A xs.length c css)
  lr : LR entR 4 W xs css
theorem own_at {l : List Nat} {n₀ : Nat} {W : PW} {A : Option Addr} {n c : Nat} {css : List (List Value)} (h : OwnS l n₀ W (histO A n c css)) : OwnAt A n ∧ n ≤ c := by
  rcases h.1.2 with ⟨e1, e2⟩ | ⟨g, cap, cur, e, _, _, h1, _⟩
  · simp only [histO, Value.slice.injEq] at e1
    obtain ⟨rfl, rfl, rfl⟩ := e1
    exact ⟨fun h => absurd h (Nat.lt_irrefl 0), Nat.le_refl _⟩
  · simp only [histO, Value.slice.injEq] at e
    obtain ⟨rfl, _, rfl⟩ := e
    exact ⟨fun _ => ⟨g, rfl⟩, h1⟩

/-- An entry of a history that is owned. -/
theorem hist_at {W : PW} {A : Option Addr} {c : Nat} {xs : List EntS} {css : List (List Value)} (hL : LR entR 4 W xs css) (hA : OwnAt A xs.length) {j : Int} (hj : 0 ≤ j ∧ j < xs.length) :
    ∃ b, A = some b ∧ ∃ e a1 n1 c1 a2 n2 c2 a3 n3 c3, xs[j.toNat]? = some e ∧ ConfR W e.c [.slice a1 n1 c1, .slice a2 n2 c2] ∧ NumR W (.slice a3 n3 c3) e.num ∧
      (∀ (S : GS) (i : Nat), S.O[i]? = some (histO A xs.length c css) → RdsO S (b.add (j.toNat * 4)) [.int .u64 e.rev, .slice a1 n1 c1, .slice a2 n2 c2, .slice a3 n3 c3]) ∧
      (∀ (S : GS) (i : Nat), S.O[i]? = some (histO A xs.length c css) → RdO S (((b.add (j.toNat * 4)).add 0).add 0) (.int .u64 e.rev)) ∧
      (∀ (S : GS) (i : Nat), S.O[i]? = some (histO A xs.length c css) → RdsO S (((b.add (j.toNat * 4)).add 0).add 1) [.slice a1 n1 c1, .slice a2 n2 c2]) ∧
      (∀ (S : GS) (i : Nat), S.O[i]? = some (histO A xs.length c css) → RdO S ((b.add (j.toNat * 4)).add 3) (.slice a3 n3 c3)) := by
  obtain ⟨h1, h2⟩ := hj
  have hlt : j.toNat < xs.length := by omega
  obtain ⟨g, rfl⟩ := hA (by omega)
  obtain ⟨e, cc, hx, _, hR, hcs⟩ := hL.get hlt
  obtain ⟨a1, n1, c1, a2, n2, c2, a3, n3, c3, rfl, hC, hN⟩ := hR.form
  have key : ∀ (S : GS) (i : Nat), S.O[i]? = some (histO (some ⟨g, 0, none⟩) xs.length c css) → ∀ (off : Nat) (v : Value), [Value.int .u64 e.rev, .slice a1 n1 c1, .slice a2 n2 c2, .slice a3 n3 c3][off]? = some v → RdO S ((⟨g, 0, none⟩ : Addr).add (j.toNat * 4 + off)) v :=
    fun S i hi off v hv => .inr ⟨i, _, _, _, _, _, hi, rfl, rfl, hcs off v hv⟩
  refine ⟨_, rfl, e, a1, n1, c1, a2, n2, c2, a3, n3, c3, hx, hC, hN, fun S i hi k v hk => ?_, fun S i hi => ?_, fun S i hi k v hk => ?_, fun S i hi => ?_⟩
  · rw [Addr.add_add]; exact key S i hi k v hk
  · rw [Addr.add_add, Addr.add_add]; exact key S i hi 0 _ rfl
  · rw [Addr.add_add, Addr.add_add, Addr.add_add, Nat.zero_add]
    refine key S i hi (1 + k) v ?_
    match k, hk with
    | 0, hk => exact hk
    | 1, hk => exact hk
    | k + 2, hk => simp at hk
  · rw [Addr.add_add]; exact key S i hi 3 _ rfl

def lastI (rev : Int) : List EntS → Nat → Int → Int
  | [], _, p => p
  | e :: r, i, p => lastI rev r (i + 1) (if e.rev ≤ rev then (i : Int) else p)
theorem drop_cons {α : Type} {l : List α} {i : Nat} {x : α} (h : l[i]? = some x) : l.drop i = x :: l.drop (i + 1) := by
  obtain ⟨h1, h2⟩ := List.getElem?_eq_some_iff.1 h
  rw [List.drop_eq_getElem_cons h1, h2]
theorem lastI_step {rev : Int} {xs : List EntS} {i : Nat} {p : Int} {e : EntS} (h : xs[i]? = some e) : lastI rev (xs.drop i) i p = lastI rev (xs.drop (i + 1)) (i + 1) (if e.rev ≤ rev then (i : Int) else p) := by
  rw [drop_cons h]; rfl
theorem lastI_in {rev : Int} : ∀ (xs : List EntS) (i : Nat) (p : Int), lastI rev xs i p = p ∨ ∃ (j : Nat) (e : EntS), xs[j]? = some e ∧ e.rev ≤ rev ∧ lastI rev xs i p = ((i + j : Nat) : Int)
  | [], _, _ => .inl rfl
  | e :: r, i, p => by
    by_cases h : e.rev ≤ rev
    · have e1 : lastI rev (e :: r) i p = lastI rev r (i + 1) i := by show lastI rev r (i + 1) (if e.rev ≤ rev then (i : Int) else p) = _; rw [if_pos h]
      rcases lastI_in r (i + 1) i with h2 | ⟨j, e', h2, h3, h4⟩
      · exact .inr ⟨0, e, rfl, h, by rw [e1, h2]; rfl⟩
      · exact .inr ⟨j + 1, e', h2, h3, by rw [e1, h4]; congr 1; omega⟩
    · have e1 : lastI rev (e :: r) i p = lastI rev r (i + 1) p := by show lastI rev r (i + 1) (if e.rev ≤ rev then (i : Int) else p) = _; rw [if_neg h]
      rcases lastI_in r (i + 1) p with h2 | ⟨j, e', h2, h3, h4⟩
      · exact .inl (by rw [e1, h2])
      · exact .inr ⟨j + 1, e', h2, h3, by rw [e1, h4]; congr 1; omega⟩
def atS (xs : List EntS) (gone rev : Int) : ConfS × Int :=
  match lastI rev xs 0 (-1) with
  | .ofNat i => match xs[i]? with | some e => (e.c, gone + i + 1) | none => (noConf, 0)
  | .negSucc _ => (noConf, 0)
theorem atS_no {xs : List EntS} {gone rev : Int} (h : lastI rev xs 0 (-1) < 0) : atS xs gone rev = (noConf, 0) := by
  unfold atS
  split
  · rename_i i hi; rw [hi] at h; exact absurd h (by simp)
  · rfl
theorem atS_yes {xs : List EntS} {gone rev : Int} {i : Nat} {e : EntS} (h : lastI rev xs 0 (-1) = i) (he : xs[i]? = some e) : atS xs gone rev = (e.c, gone + i + 1) := by
  unfold atS
  rw [show lastI rev xs 0 (-1) = Int.ofNat i from h]
  dsimp only
  rw [he]

theorem made_x (W : PW) (g : Nat) (b : Bool) (y z : Value) (h : OwnB W g [.bool b, y, z]) : CallsX Try.prog 76 ⟨[.pointer (some ⟨g, 0, none⟩)]⟩ [g] W fun v W' => v = .bool b ∧ OwnB W' g [.bool b, y, z] := by
  refine methX hmix Try.func76 r76 (by kernel_rfl) h [] rfl ?_
  exact ret_m1 rfl rfl rfl rfl fun W' _ h1 => ⟨rfl, h1⟩
theorem madenil_x (W : PW) : CallsX Try.prog 76 ⟨[.pointer none]⟩ [] W fun v _ => v = .bool false := by
  refine pureX hmix Try.func76 r76 (by kernel_rfl) [.pointer none] rfl ?_
  exact ret_plain rfl fun W' _ => rfl
section
variable {B : Base}
theorem call_made {S : GS} {k : Nat} {cs : List PV} {b : Bool} {y z : Value} {prot : List Nat} {K : GV → GS → Prop} (hk : S.σ[k]? = some cs) (hx : plainCells cs = some [.bool b, y, z]) (hn : prot.contains (k + 1) = false)
    (hK : ∀ W', S.W.Le W' → K (.v (.bool b)) ((S.setW W').modσ fun σ => σ.set k ([Value.bool b, y, z].map .v))) : CallVC Try.prog B 76 [.lp k 0] prot S K :=
  call_m1 hk hx rfl hn k76 fun g W1 l1 how => (made_x W1 g b y z how).mono fun _ W2 ⟨hv, ho⟩ l2 => ⟨_, ho, hv ▸ hK W2 (l1.trans l2)⟩
end

set_option maxHeartbeats 4000000 in
theorem last_x (xs : List EntS) (css : List (List Value)) (A : Option Addr) (c : Nat) (gone rev : Int) (g : Nat) (W : PW) (hp : HPre W g A c gone xs css) (hn : xs.length ≤ 1000) :
    CallsX Try.prog 124 ⟨[.pointer (some ⟨g, 0, none⟩), .int .u64 rev]⟩ (g :: (histO A xs.length c css).v.ownBlock.toList) W fun v W' => v = .int .i64 (lastI rev xs 0 (-1)) ∧ OwnB W' g (histV (.slice A xs.length c) gone) ∧ OwnS (histO A xs.length c css).v.ownBlock.toList W.w.heap.size W' (histO A xs.length c css) := by
  obtain ⟨hown, ho, hne, hL⟩ := hp
  obtain ⟨hat, _⟩ := own_at ho
  refine methOX (o := histO A xs.length c css) hmix Try.func124 r124 (by kernel_rfl) hown ho hne [.int .u64 rev] rfl ?_
  refine call_made rfl rfl rfl (fun W1 l1 => ?_)
  refine ⟨Nat × Int, fun t => [(5, .v (.int .i64 t.2)), (16, .v (.int .i64 t.1))], fun _ => [(histV (.slice A xs.length c) gone).map .v], fun _ => [histO A xs.length c css], fun t _ => t.1 ≤ xs.length ∧ lastI rev xs 0 (-1) = lastI rev (xs.drop t.1) t.1 t.2, fun t => xs.length - t.1, (0, -1),
    all_sl ⟨rfl, rfl, trivial⟩, rfl, ole_refl _, ⟨Nat.zero_le _, rfl⟩, loopOK (fun _ => ⟨⟨trivial, rfl⟩, ⟨trivial, rfl⟩, trivial⟩) (fun _ => rfl) (fun _ => rfl), ?_⟩
  rintro ⟨i, p⟩ W2 l2 ⟨hi, hla⟩ fr
  dsimp only at hi hla
  refine ⟨rfl, ?_⟩
  apply br_split
  · intro h1
    have hq : (i : Int) < xs.length := h1
    obtain ⟨b, rfl, e, a1, n1, c1, a2, n2, c2, a3, n3, c3, hx, _, _, hrd, _⟩ := hist_at (c := c) hL hat (j := i) ⟨by omega, hq⟩
    have hx : xs[i]? = some e := hx
    rw [lastI_step hx] at hla
    refine ⟨⟨by omega, hq⟩, b, rfl, [.int .u64 e.rev, .slice a1 n1 c1, .slice a2 n2 c2, .slice a3 n3 c3], rfl, hrd _ 0 rfl, ?_⟩
    obtain ⟨er, her⟩ : ∃ er, e.rev = er := ⟨_, rfl⟩
    rw [her] at hla ⊢
    refine ⟨rfl, ?_⟩
    apply br_split
    · intro h2
      have h2 : er ≤ rev := h2
      rw [if_pos h2] at hla
      exact ⟨rfl, _, (i64_in ((i : Int) + 1) ⟨by omega, by omega⟩).symm, (i + 1, (i : Int)), all_sl ⟨rfl, rfl, trivial⟩, rfl, ole_refl _, ⟨by dsimp only; omega, hla⟩, by dsimp only; omega⟩
    · intro h2
      have h2 : ¬ er ≤ rev := h2
      rw [if_neg h2] at hla
      exact ⟨rfl, _, (i64_in ((i : Int) + 1) ⟨by omega, by omega⟩).symm, (i + 1, p), all_sl ⟨rfl, rfl, trivial⟩, rfl, ole_refl _, ⟨by dsimp only; omega, hla⟩, by dsimp only; omega⟩
  · intro h1
    have hq : ¬ (i : Int) < xs.length := h1
    have ei : i = xs.length := by omega
    rw [ei, List.drop_length] at hla
    have hla : lastI rev xs 0 (-1) = p := hla
    exact ret_m1own (i := 0) rfl rfl rfl rfl rfl rfl fun W' _ h1 h2 => ⟨by rw [hla], h1, h2⟩

set_option maxHeartbeats 4000000 in
theorem at_x (xs : List EntS) (css : List (List Value)) (A : Option Addr) (c : Nat) (gone rev : Int) (g : Nat) (W : PW) (hp : HPre W g A c gone xs css) (hn : xs.length ≤ 1000) (hg : 0 ≤ gone ∧ gone ≤ 1000000) (hB : ∀ e ∈ xs, BdC e.c) :
    CallsX Try.prog 72 ⟨[.pointer (some ⟨g, 0, none⟩), .int .u64 rev]⟩ (g :: (histO A xs.length c css).v.ownBlock.toList) W fun v W' => (∃ cells, v = .tuple ⟨[.agg ⟨cells⟩, .int .i64 (atS xs gone rev).2]⟩ ∧ ConfR W' (atS xs gone rev).1 cells) ∧ HPost (histO A xs.length c css) W.w.heap.size W' g A c gone xs css := by
  have hp0 := hp
  obtain ⟨hown, ho, hne, hL⟩ := hp
  obtain ⟨hat, _⟩ := own_at ho
  refine methOX (o := histO A xs.length c css) hmix Try.func72 r72 (by kernel_rfl) hown ho hne [.int .u64 rev] rfl ?_
  refine call_m1O (i := 0) rfl rfl rfl rfl rfl rfl k124 (fun g' W1 l1 how hown1 hne1 => (last_x xs css A c gone rev g' W1 ⟨how, hown1, hne1, hL.mono entR.mono l1⟩ hn).mono fun v W2 ⟨hv, hb2, ho2⟩ l2 => ⟨_, _, hb2, ho2, ?_⟩)
  have l12 := l1.trans l2
  have hL2 := hL.mono entR.mono l12
  obtain ⟨p, hpv, rfl⟩ : ∃ p, lastI rev xs 0 (-1) = p ∧ v = .int .i64 p := ⟨_, rfl, hv⟩
  refine ⟨rfl, ?_⟩
  apply br_split
  · intro h1
    have h1 : p < 0 := h1
    refine ret_m1own (i := 0) rfl rfl rfl rfl rfl rfl fun W' l3 h1' h2' => ⟨⟨[.slice none 0 0, .slice none 0 0], ?_, ?_⟩, h1', h2', hL2.mono entR.mono l3⟩
    · rw [atS_no (by omega)]
    · rw [atS_no (by omega)]; exact ConfR.no W'
  · intro h1
    have h1 : ¬ p < 0 := h1
    rcases lastI_in (rev := rev) xs 0 (-1) with h2 | ⟨j, e0, hx, _, hj⟩
    · omega
    obtain rfl : p = j := by rw [← hpv, hj, Nat.zero_add]
    have hjl : j < xs.length := (List.getElem?_eq_some_iff.1 hx).1
    obtain ⟨b, rfl, e, a1, n1, c1, a2, n2, c2, a3, n3, c3, hx', hC, _, _, _, hrd, _⟩ := hist_at (c := c) hL2 hat (j := j) ⟨by omega, by omega⟩
    have hx' : xs[j]? = some e := hx'
    have hbe := hB e (List.mem_of_getElem? hx')
    have hat := atS_yes (gone := gone) hpv hx'
    obtain ⟨ec, hec⟩ : ∃ ec, e.c = ec := ⟨_, rfl⟩
    rw [hec] at hC hbe hat
    obtain ⟨r1, hr1⟩ : ∃ r : Int, gone + j = r := ⟨_, rfl⟩
    refine ⟨⟨by omega, by omega⟩, b, rfl, [.slice a1 n1 c1, .slice a2 n2 c2], rfl, hrd _ 0 rfl, rfl, r1, ?_, rfl, _, (i64_in (r1 + 1) ⟨by omega, by omega⟩).symm, ?_⟩
    · rw [hr1, i64_in r1 ⟨by omega, by omega⟩]
    refine call_v rfl (fun W' lw => copied_x ec _ W' hbe (ConfR.mono _ _ _ _ lw hC)) (fun W3 v W4 l3 l4 hv => ?_)
    obtain ⟨cells, rfl, hC2⟩ := hv
    obtain ⟨b1, d1, b2, d2, rfl⟩ := hC2.form
    refine ret_m1own (i := 0) rfl rfl rfl rfl rfl rfl fun W' l5 h1' h2' => ⟨⟨[.slice b1 ec.spaces.length d1, .slice b2 ec.scopes.length d2], ?_, ?_⟩, h1', h2', hL2.mono entR.mono (l3.trans (l4.trans l5))⟩
    · rw [hat, hr1]
    · rw [hat]; exact ConfR.mono _ _ _ _ l5 hC2

end Go.Proofs.Ytcgbcbdgjhnlaaa

