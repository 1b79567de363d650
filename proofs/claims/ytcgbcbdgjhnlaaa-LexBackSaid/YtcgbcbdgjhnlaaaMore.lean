/- More laws by which conditions are worked off: calls that only read, the library's contracts, lists in memory. -/
import Derived.Test.YtcgbcbdgjhnlaaaTools
import Derived.Below
namespace Go.Proofs.Ytcgbcbdgjhnlaaa
open Go.RowKit

def PW.all (W : World) : PW := ⟨W, fun b => b < W.heap.size, fun _ h => h⟩

section
variable {P : Program} {B : Base} {ρ : Nat → Nat} {S : GS} {w : World}

/-- A contract that leaves all that lay below as it was. -/
theorem CallsX.of_below {fid : FuncId} {args : Array Value} {W : PW} {R : Value → Prop} (hcall : Callable P fid) (h : Calls P fid args W.w fun e w' => ∃ v, e = .returned v ∧ Below W.w.heap.size W.w w' ∧ R v) : CallsX P fid args [] W fun r _ => R r :=
  ⟨hcall, h.mono fun _ w' ⟨v, he, hb, hr⟩ => ⟨v, ⟨w', W.A, fun b hA => Nat.lt_of_lt_of_le (W.lt b hA) hb.size⟩, he, rfl,
    ⟨⟨hb.os, hb.tape, hb.output, hb.size, fun b hb1 _ => hb.block b hb1⟩, ⟨hb.size, fun _ h => h, fun b hA => hb.block b (W.lt b hA)⟩, fun _ h => .inl h⟩, hr⟩⟩
theorem CallsX.of_same {fid : FuncId} {args : Array Value} {W : PW} {v : Value} (hcall : Callable P fid) (h : Calls P fid args W.w fun e w' => e = .returned v ∧ w' = W.w) : CallsX P fid args [] W fun r _ => r = v :=
  CallsX.of_below hcall (h.mono fun _ _ ⟨he, hw⟩ => ⟨v, he, hw ▸ Below.refl _ _, rfl⟩)
theorem CallsX.of_at {fid : FuncId} {args : Array Value} {W : PW} {v : Value} (hcall : Callable P fid) (h : Calls P fid args W.w fun e w' => e = .returned v ∧ Below W.w.heap.size W.w w') : CallsX P fid args [] W fun r _ => r = v :=
  CallsX.of_below hcall (h.mono fun _ _ ⟨he, hw⟩ => ⟨v, he, hw, rfl⟩)

/-- The world as it stands: nothing of it is written. -/
theorem St.le_all (h : St B ρ S w) : S.W.Le (PW.all w) := ⟨h.vsize, fun _ hb => h.A_lt hb, fun b hb => h.vblock b hb⟩
theorem St.own_all (h : St B ρ S w) {i : Nat} {o : Own} (hi : S.O[i]? = some o) : SlRead (PW.all w) o.v o.n o.cs :=
  ownsRow_read (W := PW.all w) (h.own i o hi).1 fun _ hb => h.own_lt hi hb
theorem St.var_all (h : St B ρ S w) {k : Nat} {cs : List PV} {vs : List Value} (hk : S.σ[k]? = some cs) (hp : plainCells cs = some vs) : Rds (PW.all w) ⟨ρ k, 0, none⟩ vs := by
  obtain ⟨e, he⟩ := h.loc k cs hk
  rw [plain_real ρ hp] at he
  intro j v hj
  rw [add_lit, Nat.zero_add]
  exact ⟨heap_lt he, by simp [World.cell?, PW.all, he, hj]⟩

/-- A call that only reads: whatever stands stays, so all of it may be read. -/
theorem call_ro {fid : FuncId} {args : List GV} {prot : List Nat} {K : GV → GS → Prop} (R : Value → Prop) (hcall : Callable P fid) (hc : ∀ ρ w, St B ρ S w → CallsX P fid ⟨args.map (GV.real ρ)⟩ [] (PW.all w) fun v _ => R v)
    (hK : ∀ v W', S.W.Le W' → R v → K (.v v) (S.setW W')) : CallVC P B fid args prot S K := by
  refine ⟨hcall, fun ρ w hst => (hc ρ w hst).2.mono fun e w' ⟨v, W', h1, h2, h3, h4⟩ => ?_⟩
  subst h2
  have hs : w.heap.size ≤ W'.w.heap.size := h3.le.size
  obtain ⟨W3, e3, hadv⟩ : ∃ W3 : PW, W3.w = W'.w ∧ Adv [] hst.here W3 :=
    ⟨⟨W'.w, S.W.A, fun _ hb => Nat.lt_of_lt_of_le (hst.A_lt hb) hs⟩, rfl, h3.keep, ⟨hs, fun _ h => h, fun b hb => h3.keep.block b (hst.A_lt hb) (by simp)⟩, fun _ h => .inl h⟩
  rw [← e3]
  exact ⟨.v v, ⟨S.σ, S.O, W3⟩, ρ, h1, fun _ _ => rfl, ⟨Nat.le_refl _, hst.le_here.trans hadv.le, ⟨fun _ _ => rfl, fun _ _ _ h => h⟩⟩, trivial, hst.grow hadv, hK v _ (hst.le_here.trans hadv.le) h4⟩
/-- The same, with plain arguments: the slices that are owned may be read. -/
theorem call_roO {fid : FuncId} {args : List GV} {vs : List Value} {prot : List Nat} {K : GV → GS → Prop} (R : Value → Prop) (hp : plainGs args = some vs) (hcall : Callable P fid)
    (hc : ∀ W', S.W.Le W' → (∀ (i : Nat) (o : Own), S.O[i]? = some o → SlRead W' o.v o.n o.cs) → CallsX P fid ⟨vs⟩ [] W' fun v _ => R v)
    (hK : ∀ v W', S.W.Le W' → R v → K (.v v) (S.setW W')) : CallVC P B fid args prot S K :=
  call_ro R hcall (fun ρ w hst => by rw [plainGs_real hp ρ]; exact hc _ hst.le_all fun i o hi => hst.own_all hi) hK

/-- What is owned is not written any more, from a call on. -/
theorem CallVC.freeze {fid : FuncId} {args : List GV} {prot : List Nat} {K : GV → GS → Prop} (hex : ∀ b, b ∈ B.ex → b ∈ B.rc) (h0 : prot.contains 0 = false) {i : Nat} {o : Own} (hi : S.O[i]? = some o)
    (hcall : Callable P fid) (hR : ∀ W', S.W.Le W' → SlRead W' o.v o.n o.cs → CallVC P B fid args prot ((S.setW W').modO fun O => O.eraseIdx i) K) : CallVC P B fid args prot S K := by
  refine ⟨hcall, fun ρ w hst => ?_⟩
  obtain ⟨W', h1, h2, h3⟩ := hst.freeze hex hi
  refine ((hR W' h1 h2).run ρ w h3).mono fun e w' ⟨g, S', ρ', k1, k2, k3, k4, k5, k6⟩ => ?_
  exact ⟨g, S', ρ', k1, k2, ⟨k3.len, h1.trans k3.le, ⟨k3.prot.var, fun h => absurd h (not_mem_of h0)⟩⟩, k4, k5, k6⟩

/-! ### Lists in memory -/
theorem flat_get {α : Type} {f : α → List Value} {sz : Nat} (hf : ∀ x, (f x).length = sz) : ∀ {xs : List α} {j : Nat} {x : α} {off : Nat}, xs[j]? = some x → off < sz → ((xs.map f).flatten)[j * sz + off]? = (f x)[off]?
  | [], j, x, off, h, _ => by simp at h
  | a :: xs, 0, x, off, h, ho => by
    simp only [List.getElem?_cons_zero, Option.some.injEq] at h
    subst h
    simp only [List.map_cons, List.flatten_cons, Nat.zero_mul, Nat.zero_add]
    exact List.getElem?_append_left (by rw [hf]; exact ho)
  | a :: xs, j + 1, x, off, h, ho => by
    rw [List.getElem?_cons_succ] at h
    simp only [List.map_cons, List.flatten_cons]
    rw [List.getElem?_append_right (by rw [hf, Nat.add_mul]; omega), hf, show (j + 1) * sz + off - sz = j * sz + off by rw [Nat.add_mul]; omega]
    exact flat_get hf h ho
theorem flat_len {α : Type} {f : α → List Value} {sz : Nat} (hf : ∀ x, (f x).length = sz) : ∀ xs : List α, ((xs.map f).flatten).length = xs.length * sz
  | [] => by simp
  | a :: xs => by simp only [List.map_cons, List.flatten_cons, List.length_append, hf, flat_len hf xs, List.length_cons, Nat.add_mul]; omega
theorem flat_snoc {α : Type} (f : α → List Value) (xs : List α) (x : α) : ((xs ++ [x]).map f).flatten = (xs.map f).flatten ++ f x := by simp
theorem flat_one {α : Type} {f : α → List Value} (h : ∀ x, ∀ u ∈ f x, u.oneCell' = true) (xs : List α) : ∀ u ∈ (xs.map f).flatten, u.oneCell' = true := by
  intro u hu
  obtain ⟨l, hl, hu⟩ := List.mem_flatten.1 hu
  obtain ⟨x, _, rfl⟩ := List.mem_map.1 hl
  exact h x u hu
/-- A slice of such elements, which is never written again. -/
def RP {α : Type} (f : α → List Value) (W : PW) (v : Value) (xs : List α) : Prop := SlRead W v xs.length (xs.map f).flatten
theorem RP.mono {α : Type} {f : α → List Value} {W W' : PW} {v : Value} {xs : List α} (h : RP f W v xs) (l : W.Le W') : RP f W' v xs := SlRead.mono h l
theorem RP.form {α : Type} {f : α → List Value} {W : PW} {v : Value} {xs : List α} (h : RP f W v xs) : ∃ A c, v = .slice A xs.length c ∧ xs.length ≤ c ∧ c ≤ maxLen := SlRead.form h
theorem RP.nil {α : Type} (f : α → List Value) (W : PW) : RP f W (.slice none 0 0) [] := SlRead.nil W _
/-- The cells of an element. -/
theorem RP.at {α : Type} {f : α → List Value} {sz : Nat} (hf : ∀ x, (f x).length = sz) {W W' : PW} {A : Option Addr} {n c : Nat} {xs : List α} (h : RP f W (.slice A n c) xs) (l : W.Le W') {j : Int} (hj : 0 ≤ j ∧ j < n) :
    ∃ a, A = some a ∧ ∃ x, xs[j.toNat]? = some x ∧ (∀ (off : Nat) (v : Value), (f x)[off]? = some v → Rd W' ((a.add (j.toNat * sz)).add off) v) ∧ (0 < sz → ∀ v, (f x)[0]? = some v → Rd W' (a.add (j.toNat * sz)) v) ∧ Rds W' (a.add (j.toNat * sz)) (f x) := by
  obtain ⟨A', c', e, h1, h2, h3⟩ := h
  simp only [Value.slice.injEq] at e
  obtain ⟨rfl, rfl, rfl⟩ := e
  obtain ⟨a, ha, hr⟩ := h3 (by omega)
  have hlt : j.toNat < xs.length := by omega
  have hg := List.getElem?_eq_getElem hlt
  have key : ∀ (off : Nat) (v : Value), (f xs[j.toNat])[off]? = some v → ((xs.map f).flatten)[j.toNat * sz + off]? = some v := fun off v hv => by
    have : off < sz := by have := (List.getElem?_eq_some_iff.1 hv).1; rw [hf] at this; exact this
    rw [flat_get hf hg this]; exact hv
  have all : ∀ (off : Nat) (v : Value), (f xs[j.toNat])[off]? = some v → Rd W' ((a.add (j.toNat * sz)).add off) v := fun off v hv => by
    rw [Addr.add_add]; exact (hr _ v (key off v hv)).mono l
  refine ⟨a, ha, _, hg, all, fun hs v hv => (hr _ v (key 0 v hv)).mono l, all⟩
/-- A part of a slice. -/
theorem SlRead.cut {W : PW} {A : Option Addr} {n c : Nat} {cs : List Value} (h : SlRead W (.slice A n c) n cs) (sz : Nat) {l m : Nat} (h1 : l ≤ m) (h2 : m ≤ n) :
    SlRead W (.slice (if c = l then A else A.map (·.add (l * sz))) (m - l) (c - l)) (m - l) ((cs.drop (l * sz)).take ((m - l) * sz)) := by
  obtain ⟨A', c', e, h3, h4, h5⟩ := h
  simp only [Value.slice.injEq] at e
  obtain ⟨rfl, _, rfl⟩ := e
  refine ⟨_, _, rfl, by omega, by omega, fun h0 => ?_⟩
  obtain ⟨a, rfl, hr⟩ := h5 (by omega)
  refine ⟨a.add (l * sz), by rw [if_neg (by omega)]; rfl, fun j v hj => ?_⟩
  rw [Addr.add_add]
  refine hr _ v ?_
  rw [List.getElem?_take] at hj
  split at hj
  · rw [List.getElem?_drop] at hj; exact hj
  · cases hj
theorem flat_drop {α : Type} {f : α → List Value} {sz : Nat} (hf : ∀ x, (f x).length = sz) : ∀ (xs : List α) (l : Nat), ((xs.map f).flatten).drop (l * sz) = ((xs.drop l).map f).flatten
  | xs, 0 => by simp
  | [], l + 1 => by simp
  | a :: xs, l + 1 => by
    have := flat_drop hf xs l
    simp only [List.map_cons, List.flatten_cons, List.drop_succ_cons]
    rw [← this, List.drop_append, List.drop_eq_nil_of_le (by rw [hf, Nat.add_mul]; omega), List.nil_append, hf, Nat.add_mul, Nat.one_mul, Nat.add_sub_cancel]
theorem flat_take {α : Type} {f : α → List Value} {sz : Nat} (hf : ∀ x, (f x).length = sz) : ∀ (xs : List α) (l : Nat), ((xs.map f).flatten).take (l * sz) = ((xs.take l).map f).flatten
  | xs, 0 => by simp
  | [], l + 1 => by simp
  | a :: xs, l + 1 => by
    have := flat_take hf xs l
    simp only [List.map_cons, List.flatten_cons, List.take_succ_cons]
    rw [← this, List.take_append, List.take_of_length_le (by rw [hf, Nat.add_mul]; omega), hf, Nat.add_mul, Nat.one_mul, Nat.add_sub_cancel]
theorem RP.cut {α : Type} {f : α → List Value} {sz : Nat} (hf : ∀ x, (f x).length = sz) {W : PW} {A : Option Addr} {n c : Nat} {xs : List α} (h : RP f W (.slice A n c) xs) {l m : Nat} (h1 : l ≤ m) (h2 : m ≤ xs.length) :
    RP f W (.slice (if c = l then A else A.map (·.add (l * sz))) (m - l) (c - l)) ((xs.drop l).take (m - l)) := by
  have hn : n = xs.length := by obtain ⟨_, _, e, _⟩ := h; simp only [Value.slice.injEq] at e; exact e.2.1
  subst hn
  have := SlRead.cut h sz h1 h2
  rw [flat_drop hf, flat_take hf] at this
  have hl : ((xs.drop l).take (m - l)).length = m - l := by simp; omega
  unfold RP
  rw [hl]; exact this

theorem ole_eq {O O' : List Own} (h : O = O') : OLe O O' := h ▸ ole_refl O
end
end Go.Proofs.Ytcgbcbdgjhnlaaa
