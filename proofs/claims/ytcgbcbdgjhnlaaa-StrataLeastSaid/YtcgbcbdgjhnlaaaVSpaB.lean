/- Layer 19 (space), walked: slices.Clone, and configurations that are copied. No statement is proved here. -/
import Derived.Test.YtcgbcbdgjhnlaaaVStrO
import Derived.Test.YtcgbcbdgjhnlaaaVStrN
import Derived.Test.YtcgbcbdgjhnlaaaVPB
import Derived.Lib.SliceRun
namespace Go.Proofs.Ytcgbcbdgjhnlaaa
open Go.RowKit

section
variable {P : Program} {B : Base}
end

def BdR (r : RelS) : Prop := r.types.length ≤ 1000 ∧ r.nodes.length ≤ 1000
def BdC (c : ConfS) : Prop := c.spaces.length ≤ 1000 ∧ c.scopes.length ≤ 1000 ∧ ∀ s ∈ c.spaces, s.rels.length ≤ 1000 ∧ ∀ r ∈ s.rels, BdR r

theorem one_flat {α : Type} {f : α → List Value} (hf : ∀ x, ∀ u ∈ f x, u.oneCell' = true) (xs : List α) : ∀ u ∈ (xs.map f).flatten, u.oneCell' = true := by
  intro u hu
  obtain ⟨l, hl, hu⟩ := List.mem_flatten.1 hu
  obtain ⟨x, _, rfl⟩ := List.mem_map.1 hl
  exact hf x u hu
theorem len_flat {α : Type} {f : α → List Value} {sz : Nat} (hf : ∀ x, (f x).length = sz) : ∀ xs : List α, ((xs.map f).flatten).length = xs.length * sz
  | [] => by simp
  | x :: r => by rw [List.map_cons, List.flatten_cons, List.length_append, hf, len_flat hf r, List.length_cons, Nat.succ_mul]; omega
end Go.Proofs.Ytcgbcbdgjhnlaaa

