/- json.distinct of one key, walked by the kit's steps. -/
import Derived.Test.YtkhgmmejgikgnaaDoorRepV
import Derived.Test.YtkhgmmejgikgnaaDoorRepJ
import Derived.Test.YtkhgmmejgikgnaaDoorCodeRJ
import Derived.WalkKit
import Derived.Maps.OwnSet
import Derived.Maps.OwnOps
import Derived.StringKeys
namespace Go.Proofs.YtkhgmmejgikgnaaDoor
open Go.RowKit Go.Maps

theorem err_asc : Asc errK := by unfold Asc errK; decide
theorem validRun (w : World) : Calls Tryd.prog 86 #[.string ⟨⟨errK⟩⟩] w fun e w' => e = .returned (.bool true) ∧ Below w.heap.size w w' :=
  (valid_x errK err_asc (by decide) (PW.all w)).2.mono fun e w' ⟨v, W', h1, h2, h3, h4⟩ => by
    subst h4; subst h2
    exact ⟨h1, h3.keep.os, h3.keep.tape, h3.keep.output, h3.keep.size, fun k hk => h3.keep.block k hk (by simp)⟩
section
variable {P : Program} {ops : Array Oper} {rest : List Oper} {o : Oper} {a : Act} {Q : Exit → Act → World → Prop}
theorem wpList_lookup_b (w : World) (hg : o.guard = none) (m x : Operand) (t : TypeId) (hop : o.op = Op.lookup t m x false) (g : Nat) (s : ByteArray) (hm : a.eval m = .map (some g)) (hx : a.eval x = .string s)
    (hrun : (Instr.lookup t (.map (some g)) (.string s) false).run P w = .ok (.bool false) w) (hK : wpList P ops Q rest (a.put o.dst (.bool false)) w) : wpList P ops Q (o :: rest) a w := by
  refine wpList_plain hg fun K' hK' => ?_
  unfold Oper.wp
  simp [execOp, hop, hm, hx, hrun, Result.andThen]
  exact hK' _ _ hK
end
theorem plainElem_false {P : Program} {e : TypeId} {v : Value} {ps : List MemPlace} (he : P.underlying e = some .bool) (h : plainElem (H := Unit) P e v = some (.lit (.bool false), ps)) : v = .bool false := by
  unfold plainElem at h
  rw [he] at h
  cases v <;> simp_all
theorem keyed_str : Keyed Tryd.prog 9 := string_keyed Tryd.underlying9
theorem zero_bool (w : World) : (zeroValue 4).run Tryd.prog w = .ok (.bool false) w := by kernel_rfl
theorem key_err : keyOf Tryd.prog 9 (.string ⟨⟨errK⟩⟩) = some (.string errK) := WideMaps.keyOf_string_mk Tryd.underlying9 (by decide)
theorem look_err (w : World) (g : Nat) (h : w.ownsMap (H := Unit) Tryd.prog 9 (plainElem Tryd.prog 4) g 0 (.map [])) : (Instr.lookup 190 (.map (some g)) (.string ⟨⟨errK⟩⟩) false).run Tryd.prog w = .ok (.bool false) w := by
  obtain ⟨v, ps, hrun, hv⟩ := h.lookup keyed_str Tryd.underlying190 (zero_bool w) (plainElem_bool Tryd.underlying4 false) key_err
  have e : v = .bool false := by
    have hv : plainElem (H := Unit) Tryd.prog 4 v = some (.lit (.bool false), ps) := hv
    exact plainElem_false Tryd.underlying4 hv
  rw [hrun, e]
set_option maxHeartbeats 4000000 in
set_option maxRecDepth 100000 in
theorem distinctRun (b o c : Nat) (w : World) (hb : b < w.heap.size) (hc : w.cell? ⟨b, o, none⟩ = some (.string ⟨⟨errK⟩⟩)) : Calls Tryd.prog 133 #[.slice (some ⟨b, o, none⟩) 1 c] w fun e w' => e = .returned (.bool true) ∧ Below w.heap.size w w' := by
  have hmm := @run_makeMap Tryd.prog
  have hown := World.ownsMap_made (H := Unit) w Tryd.prog 9 (plainElem Tryd.prog 4)
  have hL := look_err _ _ hown
  go_enter Tryd.func133, Tryd.ntmps133
  go_wp2
  refine wp_loop_rounds 2 ?_
  rw [rounds_succ]
  go_wp2_with (at_lookup; refine wpList_lookup_b _ rfl _ _ _ rfl _ _ rfl rfl hL ?_)
  refine (validRun _).mono fun e w1 ⟨he, hbl⟩ => ?_
  subst he
  have hown1 : w1.ownsMap (H := Unit) Tryd.prog 9 (plainElem Tryd.prog 4) w.heap.size 0 (.map []) := by
    obtain ⟨es, clock, k1, k2⟩ := hown
    exact ⟨es, clock, (hbl.block _ (by simp)).trans k1, k2⟩
  go_wp2_with (at_mapUpdate; refine wpList_mapUpdate_own _ rfl _ _ _ 190 rfl 9 4 keyed_str Tryd.underlying190 (plainElem Tryd.prog 4) w.heap.size 0 _ rfl hown1 (by unfold maxLen; omega) _ _ _ rfl rfl key_err _ [] (plainElem_bool Tryd.underlying4 true) ?_; intro w2 hown2 hgrow2)
  rw [rounds_succ]
  go_wp2
  go_ret
  refine ⟨rfl, ?_⟩
  have k0 : Below w.heap.size w (w.alloc (.map #[] 0)) := (Below.refl _ _).alloc (Nat.le_refl _) _
  have k1 : Below w.heap.size (w.alloc (.map #[] 0)) w1 := ⟨hbl.os, hbl.tape, hbl.output, hbl.size, fun k hk => hbl.block k (by simp; omega)⟩
  have s1 := hbl.size
  simp at s1
  exact (k0.trans k1).grown hgrow2 (by omega) (fun j hj => by cases hj; exact Nat.le_refl _)
end Go.Proofs.YtkhgmmejgikgnaaDoor
