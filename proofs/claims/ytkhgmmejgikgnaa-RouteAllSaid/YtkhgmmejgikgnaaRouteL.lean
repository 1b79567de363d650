/- Where a request goes: the program's answer and the document's are the same, for every method and path. -/
import Derived.Test.YtkhgmmejgikgnaaRouteW
namespace Go.Proofs.Ytkhgmmejgikgnaa
open Go.RowKit
theorem finds_out (m p : List UInt8) (h : ∀ r, r ∈ tableL → ¬ r.1 = p) : FindsOK m p := by
  have hg : ∀ (l : List (List UInt8 × List UInt8 × Int)) e, (∀ r, r ∈ l → ¬ r.1 = p) → goFind m p e l = (0, e) ∧ goAllowed p l = [] := by
    intro l
    induction l with
    | nil => intro e _; exact ⟨rfl, rfl⟩
    | cons r l ih =>
      intro e hl
      have h1 := hl r (List.mem_cons_self ..)
      have h2 := ih e fun x hx => hl x (List.mem_cons_of_mem _ hx)
      simp only [goFind, goAllowed, h1, if_false]; exact h2
  have hp : placesL p = (0, 0) := by
    have h' : ∀ r, r ∈ tableL.map (·.1) → ¬ p = r := fun r hr e => by
      obtain ⟨x, hx, rfl⟩ := List.mem_map.1 hr
      exact h x hx e.symm
    have hs : tableL.map (·.1) = [[47, 97, 117, 116, 104, 111, 114, 105, 122, 101], [47, 116, 111, 107, 101, 110], [47, 105, 110, 116, 114, 111, 115, 112, 101, 99, 116], [47, 114, 101, 118, 111, 107, 101], [47, 99, 111, 110, 115, 101, 110, 116], [47, 119, 105, 116, 104, 100, 114, 97, 119], [47, 99, 108, 105, 101, 110, 116, 115], [47, 99, 108, 105, 101, 110, 116, 115, 47, 114, 101, 109, 111, 118, 101], [47, 116, 117, 112, 108, 101, 115], [47, 116, 117, 112, 108, 101, 115], [47, 99, 104, 101, 99, 107], [47, 101, 120, 112, 97, 110, 100], [47, 108, 111, 111, 107, 117, 112], [47, 119, 97, 116, 99, 104], [47, 99, 111, 110, 102, 105, 103], [47, 99, 111, 110, 102, 105, 103], [47, 99, 111, 108, 108, 101, 99, 116], [47, 104, 101, 97, 108, 116, 104]] := rfl
    rw [hs] at h'
    simp only [List.forall_mem_cons] at h'
    obtain ⟨a1, a2, a3, a4, a5, a6, a7, a8, a9, _, a11, a12, a13, a14, a15, _, a17, a18, _⟩ := h'
    simp only [placesL, askedL, a1, a2, a3, a4, a5, a6, a7, a8, a9, a11, a12, a13, a14, a15, a17, a18, if_false]
  obtain ⟨g1, g2⟩ := hg tableL 24 h
  exact ⟨by rw [g1, findL, hp]; rfl, by rw [g2, allowedL, hp]; rfl⟩
theorem finds_law (m p : List UInt8) : FindsOK m p := by
  by_cases hp : ∃ r, r ∈ tableL ∧ r.1 = p
  · obtain ⟨r, hr, rfl⟩ := hp
    refine ⟨?_, ?_⟩
    · by_cases h1 : m = [80, 79, 83, 84]
      · subst h1; revert r; decide
      · by_cases h2 : m = [71, 69, 84]
        · subst h2; revert r; decide
        · have h1' : ¬ [80, 79, 83, 84] = m := fun e => h1 e.symm
          have h2' : ¬ [71, 69, 84] = m := fun e => h2 e.symm
          have ha : ∀ q, q ∈ tableL.map (·.1) → ¬ ((placesL q).1 = 0 ∧ (placesL q).2 = 0) := by decide
          have hb : ∀ (l : List (List UInt8 × List UInt8 × Int)) (p : List UInt8) e, (∀ x, x ∈ l → ¬ x.2.1 = m) → goFind m p e l = (0, if ∃ x, x ∈ l ∧ x.1 = p then 23 else e) := by
            intro l p
            induction l with
            | nil => intro e _; simp [goFind]
            | cons x l ih =>
              intro e hl
              have h3 := hl x (List.mem_cons_self ..)
              have h4 := fun e => ih e fun y hy => hl y (List.mem_cons_of_mem _ hy)
              by_cases hx : x.1 = p
              · simp [goFind, hx, h3, h4]
              · have e2 : (∃ y, y ∈ x :: l ∧ y.1 = p) = ∃ y, y ∈ l ∧ y.1 = p := propext ⟨fun ⟨y, hy, e⟩ => ⟨y, (List.mem_cons.1 hy).resolve_left (fun e' => hx (e' ▸ e)), e⟩, fun ⟨y, hy, e⟩ => ⟨y, List.mem_cons_of_mem _ hy, e⟩⟩
                simp only [goFind, hx, if_false, h4, e2]
          have hm : ∀ x, x ∈ tableL → x.2.1 = [80, 79, 83, 84] ∨ x.2.1 = [71, 69, 84] := by decide
          rw [hb tableL r.1 24 fun x hx => (hm x hx).elim (fun e => by rw [e]; exact h1') (fun e => by rw [e]; exact h2'), if_pos ⟨r, hr, rfl⟩]
          simp only [findL, h1, h2, false_and, if_false]
          rw [if_neg (ha r.1 (List.mem_map_of_mem hr))]
    · revert r; decide
  · exact finds_out m p fun r hr e => hp ⟨r, hr, e⟩
end Go.Proofs.Ytkhgmmejgikgnaa
