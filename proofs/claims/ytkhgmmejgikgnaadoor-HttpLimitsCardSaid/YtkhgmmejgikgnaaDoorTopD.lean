/- The last step's laws for statements whose rows list variables; what the library's variable holds; lists of pairs that are handed in. -/
import Derived.Test.YtkhgmmejgikgnaaDoorTop
import Derived.Test.YtkhgmmejgikgnaaDoorTie
import Derived.Handy
import Derived.Handed
import Derived.Lay
import Derived.MakeChecks
import Derived.LaidMore
import Derived.OpenShut
import Derived.SevenTiedAt
import Derived.Stop.Joined
import Derived.Shelf.Vars
import Derived.Deep.Slices
import Derived.Carry
import Derived.Test.YtkhgmmejgikgnaaDoorQueD
namespace Go.Proofs.YtkhgmmejgikgnaaDoor
open Go.ChangeShapes Go.WideShapes Go.ChangeAt Go.RowKit

section
variable {H : Type} {enc : TypeId × Value → H}
theorem handed_and_shaped {a : Assume} {C : Checked} {os : Os} {f : FuncId} {fn : Func} {s : ChangeSpec} {conds : List PathCond} {apart fresh handsOn again : Bool} {X : World → Array Value → Prop}
    (hX : ∀ (w w' : World) (args : Array Value), w.heap = w'.heap → X w args → X w' args)
    (own : ownKnob C.prog.godebug = none) (started : os.Started) (noInit : C.prog.inits.idxOf? f = none) (hfn : C.prog.funcs[f]? = some fn)
    (witness : ∃ (w : World) (tape : Tape) (i : Input), w.os = os ∧ (w.forCall tape i).Shaped C.prog ∧ i.vars = [] ∧ Input.okWide C.prog (w.forCall tape i) .any w.heap.size f i ∧
      ((s.pre enc C.prog fn conds apart (w.forCall tape i).memory i.args ∧ X (w.forCall tape i).memory i.args) ∧ sizedMet enc C.prog fn (OpenSpec.ofChange s) apart (w.forCall tape i).memory i.args) ∧ a.holds C.prog (lone (Frame.enter C.prog f i.args .normal) [] (w.forCall tape i)))
    (contract : ∀ (W : World) (base : Nat) (args : Array Value) (ds gs : List (DataW H)) (before : List MemPlace),
      (∀ (j : Nat) t v, fn.params[j]? = some t → args[j]? = some v → Value.okWide C.prog W .any base t v) →
      DataW.Whole enc C.prog fn.params.toList s.vars apart W args.toList ds gs before →
      X W args → W.ShapedOpen C.prog →
      Calls C.prog f args W fun e W' => ∃ v, e = .returned v ∧ s.post enc C.prog fn apart fresh handsOn again W args v W') :
    ReturnsInHanded a C os f .any (fun w args => (s.pre enc C.prog fn conds apart w args ∧ X w args) ∧ sizedMet enc C.prog fn (OpenSpec.ofChange s) apart w args) (s.post enc C.prog fn apart fresh handsOn again) := by
  refine returnsInHanded_of_calls own started noInit witness ?_
  intro w tape i _ hsh _ hok hpre hholds
  obtain ⟨_, _, _, fn', hfn', _, _, _, _, hval⟩ := hok
  have e : fn' = fn := Option.some.inj (hfn'.symm.trans hfn)
  subst e
  obtain ⟨⟨⟨ds, gs, before, hw, hc⟩, hx⟩, hz⟩ := hpre
  have hw' := DataW.Whole.of_heap (w' := w.forCall tape i) (by rfl) hw
  refine (contract (w.forCall tape i) w.heap.size i.args ds gs before hval hw' (hX _ _ _ (by rfl) hx) hsh).mono fun e W' ⟨v, he, hp⟩ => ?_
  subst he
  exact ChangeSpec.post_blind hp
theorem hm_of {W : World} (h : W.ShapedOpen Tryd.prog) : HM (PW.all W) := by
  obtain ⟨m, hm⟩ := cell_of_shapedOpen_int (g := 2) (t := 3) (zero := #[.int .i64 0]) (k := .i64) h (of_decide_eq_true (by kernel_rfl)) (by kernel_rfl) rfl (by kernel_rfl) (by kernel_rfl) Tryd.underlying3
  refine ⟨m, ?_, hm⟩
  show 2 < W.heap.size
  rcases Nat.lt_or_ge 2 W.heap.size with h1 | h1
  · exact h1
  · unfold World.cell? at hm
    rw [Array.getElem?_eq_none h1] at hm
    cases hm
end

section
variable {H : Type} {enc : TypeId × Value → H} {w : World} {base : Nat} {spare : Nat → Bool} {held : Bool}
theorem rd_all {a : Addr} {v : Value} (h : w.cell? a = some v) : Rd (PW.all w) a v := by
  refine ⟨?_, h⟩
  show a.block < w.heap.size
  rcases Nat.lt_or_ge a.block w.heap.size with h1 | h1
  · exact h1
  · unfold World.cell? at h
    rw [Array.getElem?_eq_none h1] at h
    cases h
/-- The elements of a slice that is handed in. -/
theorem open_RP {α : Type} {f : α → List Value} {Q : α → Prop} {t e sz fuel : Nat} {v : Value} {x : DataW H × List MemPlace} (ht : Tryd.prog.underlying t = some (.slice e)) (hsz : Tryd.prog.cellsOf e = sz) (hf : ∀ z, (f z).length = sz)
    (hel : ∀ (n : Nat) (cs : List Value) (y : DataW H × List MemPlace), DataW.trod enc Tryd.prog w base spare held n e cs = some y → ∃ z : α, Q z ∧ cs = f z)
    (h : DataW.trod enc Tryd.prog w base spare held fuel t [v] = some x) : ∃ xs : List α, (∀ z ∈ xs, Q z) ∧ xs.length ≤ maxLen ∧ RP f (PW.all w) v xs := by
  rcases Go.Deep.open_slice ht h with ⟨hv, _⟩ | ⟨a, len, cap, m, n, D, Pl, hv, hb, hl, hm, hmm, _, hx⟩
  · simp only [List.cons.injEq, and_true] at hv
    subst hv
    exact ⟨[], (fun z hz => by cases hz), Nat.zero_le _, RP.nil _ _⟩
  · simp only [List.cons.injEq, and_true] at hv
    subst hv
    have hlm : len ≤ m := by rw [hmm]; split <;> omega
    have key : ∀ k, k ≤ len → ∃ xs : List α, xs.length = k ∧ (∀ z ∈ xs, Q z) ∧ Rds (PW.all w) a (xs.map f).flatten := by
      intro k
      induction k with
      | zero => intro _; exact ⟨[], rfl, fun z hz => (by cases hz), fun j v hj => (by simp at hj)⟩
      | succ k ih =>
        intro hk
        obtain ⟨xs, h1, h2, h4⟩ := ih (by omega)
        obtain ⟨cs, c1, c2⟩ := hx k (by omega)
        rw [hsz] at c1
        obtain ⟨_, _, hcell⟩ := World.cells?_some c1
        obtain ⟨z, hq, hr⟩ := hel _ _ _ c2
        refine ⟨xs ++ [z], by simp [h1], fun y hy => ?_, fun j v hj => ?_⟩
        · rcases List.mem_append.1 hy with hy | hy
          · exact h2 y hy
          · rw [List.mem_singleton.1 hy]; exact hq
        · rw [flat_snoc] at hj
          have hfl := flat_len hf xs
          by_cases hjl : j < (xs.map f).flatten.length
          · rw [List.getElem?_append_left hjl] at hj
            exact h4 j v hj
          · rw [List.getElem?_append_right (by omega), ← hr] at hj
            have hjs := (List.getElem?_eq_some_iff.1 hj).1
            have := hcell (j - (xs.map f).flatten.length) (by rw [hr, hf] at hjs; exact hjs)
            rw [hj, Addr.add_add] at this
            rw [hfl, h1] at this hjl
            rw [show k * sz + (j - k * sz) = j by omega] at this
            exact rd_all this
    obtain ⟨xs, h1, h2, h4⟩ := key len (Nat.le_refl _)
    refine ⟨xs, h2, by omega, some a, cap, ?_, by omega, hm, fun _ => ⟨a, rfl, h4⟩⟩
    rw [h1]
theorem open_str {fuel : Nat} {cs : List Value} {x : DataW H × List MemPlace} (h : DataW.trod enc Tryd.prog w base spare held fuel 9 cs = some x) : ∃ l : List UInt8, cs = [strV l] ∧ l.length ≤ 9223372036854775807 := by
  obtain ⟨s, h1, _, h3⟩ := DataW.trod_string Tryd.underlying9 h
  exact ⟨s.data.toList, h1, h3⟩
theorem cells_string : Tryd.prog.cellsOf 9 = 1 := by kernel_rfl
theorem cells_pair : Tryd.prog.cellsOf 71 = 2 := by kernel_rfl
theorem two {α : Type} : ∀ {l : List α}, l.length = 2 → ∃ a b, l = [a, b]
  | [a, b], _ => ⟨a, b, rfl⟩
  | [], h => by cases h
  | [_], h => by cases h
  | _ :: _ :: _ :: _, h => by simp at h
def fitsP (p : PairS) : Prop := p.name.length ≤ 9223372036854775807 ∧ p.value.length ≤ 9223372036854775807
theorem open_pair {fuel : Nat} {cs : List Value} {x : DataW H × List MemPlace} (h : DataW.trod enc Tryd.prog w base spare held fuel 71 cs = some x) : ∃ p : PairS, fitsP p ∧ cs = pairC p := by
  obtain ⟨y0, y1, n, _, hl, h0, h1⟩ := trod_struct2 Tryd.underlying71 h
  have h0 : DataW.trod enc Tryd.prog w base spare held n 9 ((cs.drop 0).take (Tryd.prog.cellsOf 9)) = some y0 := h0
  have h1 : DataW.trod enc Tryd.prog w base spare held n 9 ((cs.drop 1).take (Tryd.prog.cellsOf 9)) = some y1 := h1
  rw [cells_string] at h0 h1
  obtain ⟨c0, c1, rfl⟩ := two (hl.trans cells_pair)
  obtain ⟨a, k0, s0⟩ := open_str h0
  obtain ⟨b, k1, s1⟩ := open_str h1
  simp only [List.drop_zero, List.take_succ_cons, List.take_zero, List.drop_succ_cons, List.cons.injEq, and_true] at k0 k1
  exact ⟨⟨a, b⟩, ⟨s0, s1⟩, by rw [k0, k1]; rfl⟩
/-- A list of pairs that is handed in. -/
theorem open_pairs {v : Value} {d : DataW H} {ps : List MemPlace} (h : DataW.Trod enc Tryd.prog w base spare held 23 v d ps) (hv : v.cells.toList = [v]) : ∃ l : List PairS, (∀ p ∈ l, fitsP p) ∧ l.length ≤ maxLen ∧ RP pairC (PW.all w) v l := by
  obtain ⟨fuel, h⟩ := h
  rw [hv] at h
  exact open_RP Tryd.underlying23 cells_pair (fun _ => rfl) (fun n cs y hy => open_pair hy) h
end
end Go.Proofs.YtkhgmmejgikgnaaDoor
