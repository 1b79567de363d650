/- The last steps of tied statements: the library's errors, where a row lists them; bytes that are handed in. -/
import Derived.Test.YtkhgmmejgikgnaaDoorTopD
import Derived.Test.YtkhgmmejgikgnaaDoorHttC
import Derived.Test.YtkhgmmejgikgnaaDoorRows
import Derived.Stop.LaidErr
import Derived.ChangeSlices
import Derived.LaidLaws
import Derived.OpenShut
namespace Go.Proofs.YtkhgmmejgikgnaaDoor
open Go.ChangeShapes Go.WideShapes Go.ChangeAt Go.RowKit

theorem errStar : "*" ++ "errors.errorString" = "*errors.errorString" := by decide
theorem errRow (u : TypeId) (h : Tryd.prog.typeName? 3 u = some "*errors.errorString") : u = 223 :=
  typeName_ptr_named (nm := "errors.errorString") (by rw [errStar]; kernel_rfl) (by kernel_rfl) (by decide) u (by rw [errStar]; exact h)
theorem err_of {W : World} {n : String} {text : List UInt8} {r : List (String × DataW Unit)} {g : Nat} (h : laidMet Tryd.prog ((n, .iface "*errors.errorString" (.ptr (.agg [.lit (.string text)]))) :: r) W)
    (hg : Tryd.prog.globalNamed n = some g) (ht : (Tryd.prog.globals[g]?).map (·.type) = some 101) : ∃ v, Rd (PW.all W) ⟨g, 0, none⟩ v ∧ IsErr v := by
  obtain ⟨a, s, hv, _⟩ := laid_sentinel h hg ht Tryd.underlying101 errRow Tryd.underlying223 Tryd.underlying225 rfl rfl Tryd.underlying9 (by kernel_rfl) (by kernel_rfl)
  have hc := World.var?_cell hg hv 0
  exact ⟨_, rd_all (by rw [hc]; rfl), .inr ⟨_, _, rfl⟩⟩
def RBn (W : PW) (v : Value) (l : List UInt8) : Prop := ∃ A c, v = .slice A l.length c ∧ (A = none → c = 0) ∧ RB W v l
section
variable {H : Type} {enc : TypeId × Value → H} {w : World} {base : Nat} {spare : Nat → Bool} {held : Bool}
theorem cells_byte : Tryd.prog.cellsOf 5 = 1 := by kernel_rfl
theorem wf_byte {n : Int} (h : (Lit.int .u8 n).wf = true) : 0 ≤ n ∧ n ≤ 255 := by
  have := range_u8 (zs := [n]) (fun m hm => by rw [List.mem_singleton.1 hm]; exact h) 0
  simpa using this
theorem open_bytes {v : Value} {d : DataW H} {ps : List MemPlace} (h : DataW.Trod enc Tryd.prog w base spare held 33 v d ps) (hv : v.cells.toList = [v]) : ∃ l : List UInt8, True ∧ True ∧ RBn (PW.all w) v l := by
  obtain ⟨fuel, h⟩ := h
  rw [hv] at h
  rcases open_ints Tryd.underlying33 Tryd.underlying5 cells_byte h with ⟨hcs, _⟩ | ⟨a, len, cap, zs, hcs, _, hl, hm, hz, _, hcell, hwz⟩
  · simp only [List.cons.injEq, and_true] at hcs
    subst hcs
    exact ⟨[], trivial, trivial, none, 0, rfl, fun _ => rfl, SlRead.nil _ _⟩
  · simp only [List.cons.injEq, and_true] at hcs
    subst hcs
    have hlz : len ≤ zs.length := by rw [hz]; split <;> omega
    have hll : ((zs.take len).map fun n => UInt8.ofNat n.toNat).length = len := by simp; omega
    refine ⟨(zs.take len).map fun n => UInt8.ofNat n.toNat, trivial, trivial, some a, cap, by rw [hll], fun e => (by cases e), some a, cap, by rw [hll], by rw [hll]; exact hl, hm, fun _ => ⟨a, rfl, fun j v hj => rd_all ?_⟩⟩
    have hjl := (List.getElem?_eq_some_iff.1 hj).1
    rw [List.length_map, hll] at hjl
    rw [hcell j (by omega), ← hj, List.getElem?_map, List.getElem?_map, List.getElem?_take, if_pos hjl, List.getElem?_eq_getElem (show j < zs.length by omega)]
    have hr := wf_byte (hwz zs[j] (List.getElem_mem _))
    rw [List.getD_eq_getElem?_getD, List.getElem?_eq_getElem (show j < zs.length by omega)]
    show some (Value.int .u8 zs[j]) = some (Value.int .u8 ((UInt8.ofNat zs[j].toNat).toNat : Int))
    rw [UInt8.toNat_ofNat']
    exact congrArg (fun z => some (Value.int .u8 z)) (by omega)
end
end Go.Proofs.YtkhgmmejgikgnaaDoor
