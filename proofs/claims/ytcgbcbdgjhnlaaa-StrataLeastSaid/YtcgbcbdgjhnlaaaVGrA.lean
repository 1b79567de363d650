/- Expressions as trees: their nodes, their tokens; what is parsed of these. -/
import Derived.Test.YtcgbcbdgjhnlaaaVPH
namespace Go.Proofs.Ytcgbcbdgjhnlaaa

inductive Tr where
  | this
  | rel (w : List UInt8)
  | arrow (w v : List UInt8)
  | op (k : Nat) (a b : Tr)
def Tr.size : Tr → Nat
  | .op _ a b => a.size + b.size + 1
  | _ => 1
def Tr.dep : Tr → Nat
  | .op _ a b => (if b.dep < a.dep then a.dep else b.dep) + 1
  | _ => 1
def Tr.ok : Tr → Prop
  | .this => True
  | .rel w => wordS w = true
  | .arrow w v => wordS w = true ∧ wordS v = true
  | .op k a b => (k = 4 ∨ k = 5 ∨ k = 6) ∧ a.ok ∧ b.ok
/-- Its nodes, behind so many others. -/
def layN : Nat → Tr → List NodeS
  | _, .this => [⟨1, [], [], 0, 0⟩]
  | _, .rel w => [⟨2, w, [], 0, 0⟩]
  | _, .arrow w v => [⟨3, w, v, 0, 0⟩]
  | m, .op k a b => layN m a ++ layN (m + a.size) b ++ [⟨k, [], [], ((m + a.size : Nat) : Int) - 1, ((m + a.size + b.size : Nat) : Int) - 1⟩]
theorem Tr.size_pos (t : Tr) : 1 ≤ t.size := by cases t <;> simp [Tr.size]
theorem layN_len : ∀ (t : Tr) (m : Nat), (layN m t).length = t.size
  | .this, _ => rfl
  | .rel _, _ => rfl
  | .arrow _ _, _ => rfl
  | .op k a b, m => by simp only [layN, List.length_append, layN_len a, layN_len b, List.length_singleton, Tr.size]
/-- What is a tree by the document's reckoning is one. -/
theorem tree_lay {l : List NodeS} : ∀ (f e a d : Nat), treeD l f e = some (a, d) → ∃ t : Tr, t.ok ∧ t.dep = d ∧ (l.drop a).take (e - a) = layN a t ∧ a + t.size = e
  | 0, e, a, d, h => by cases h
  | f + 1, 0, a, d, h => by cases h
  | f + 1, e + 1, a, d, h => by
    simp only [treeD] at h
    split at h
    · cases h
    · rename_i n hn
      have hl := (List.getElem?_eq_some_iff.1 hn).1
      split at h
      · rename_i hop
        split at h
        · cases h
        · rename_i b x hb
          obtain ⟨t2, o2, d2, s2, z2⟩ := tree_lay f _ _ _ hb
          split at h
          · cases h
          · rename_i a' y ha
            obtain ⟨t1, o1, d1, s1, z1⟩ := tree_lay f _ _ _ ha
            split at h
            · rename_i hc
              simp only [Option.some.injEq, Prod.mk.injEq] at h
              obtain ⟨rfl, rfl⟩ := h
              have q1 := t1.size_pos
              have q2 := t2.size_pos
              have hk : n.kind = 4 ∨ n.kind = 5 ∨ n.kind = 6 := by
                unfold isOp at hop
                simp only [Bool.or_eq_true, decide_eq_true_eq] at hop
                omega
              have ek : ((n.kind.toNat : Nat) : Int) = n.kind := by omega
              refine ⟨.op n.kind.toNat t1 t2, ⟨by omega, o1, o2⟩, ?_, ?_, ?_⟩
              · show (if t2.dep < t1.dep then t1.dep else t2.dep) + 1 = _
                rw [d1, d2]
              · have es : (l.drop a').take (e + 1 - a') = (l.drop a').take (b - a') ++ (l.drop b).take (e - b) ++ [n] := by
                  have e1 : (l.drop a').take (e - a') = (l.drop a').take (b - a') ++ (l.drop b).take (e - b) := by
                    rw [show e - a' = (b - a') + (e - b) by omega, List.take_add, List.drop_drop, show a' + (b - a') = b by omega]
                  rw [show e + 1 - a' = (e - a') + 1 by omega, List.take_add_one, e1, List.getElem?_drop, show a' + (e - a') = e by omega, hn]; rfl
                rw [es, s1, s2]
                obtain ⟨k, r, t, na, nb⟩ := n
                obtain ⟨h1, h2, h3, h4⟩ := hc
                dsimp only at h1 h2 h3 h4
                simp only [layN]
                rw [z1, z2, h1, h2, h3, h4, ek]
              · show a' + (t1.size + t2.size + 1) = _; omega
            · cases h
      · rename_i hop
        split at h
        · rename_i hleaf
          simp only [Option.some.injEq, Prod.mk.injEq] at h
          obtain ⟨rfl, rfl⟩ := h
          have es : (l.drop e).take (e + 1 - e) = [n] := by
            rw [show e + 1 - e = 0 + 1 by omega, List.take_add_one, List.getElem?_drop, Nat.add_zero, hn]; rfl
          obtain ⟨k, r, t, na, nb⟩ := n
          unfold leafN at hleaf
          simp only [Bool.and_eq_true, decide_eq_true_eq] at hleaf
          obtain ⟨⟨rfl, rfl⟩, hleaf⟩ := hleaf
          rw [es]
          split at hleaf
          · rename_i hk
            simp only [Bool.and_eq_true, decide_eq_true_eq] at hleaf
            obtain ⟨rfl, rfl⟩ := hleaf
            subst hk
            exact ⟨.this, trivial, rfl, rfl, rfl⟩
          · split at hleaf
            · rename_i hk
              simp only [Bool.and_eq_true, decide_eq_true_eq] at hleaf
              obtain ⟨hw, rfl⟩ := hleaf
              subst hk
              exact ⟨.rel r, hw, rfl, rfl, rfl⟩
            · split at hleaf
              · rename_i hk
                simp only [Bool.and_eq_true] at hleaf
                subst hk
                exact ⟨.arrow r t, hleaf, rfl, rfl, rfl⟩
              · cases hleaf
        · cases h
theorem deep_lay {l : List NodeS} (h : ¬ deepN l = 0) : ∃ t : Tr, t.ok ∧ l = layN 0 t ∧ deepN l = t.dep := by
  rw [deep_is] at h ⊢
  unfold deepD at h ⊢
  cases ht : treeD l l.length l.length with
  | none => rw [ht] at h; exact absurd rfl h
  | some p =>
    obtain ⟨a, d⟩ := p
    rw [ht] at h
    cases a with
    | succ a => exact absurd rfl h
    | zero =>
      obtain ⟨t, h1, h2, h3, h4⟩ := tree_lay _ _ _ _ ht
      refine ⟨t, h1, ?_, by rw [h2]; rfl⟩
      rw [← h3, List.drop_zero, Nat.sub_zero, List.take_length]

abbrev KT := Nat × List UInt8
def kt (x : Tok) : KT := (x.k, x.t)
theorem isT_of {x : Tok} {k : Nat} {t : List UInt8} (h : kt x = (k, t)) (h0 : ¬ k = 0) (h2 : ¬ k = 2) (s : List UInt8) : isT s x = decide (t = s) := by
  simp only [kt, Prod.mk.injEq] at h
  unfold isT
  rw [h.1, h.2, decide_eq_false h0, decide_eq_false h2]; rfl
def Stop (s : List UInt8) (post : List Tok) : Prop := takeB s post = false
theorem Stop.cons {x : Tok} {k : Nat} {t : List UInt8} (h : kt x = (k, t)) (h0 : ¬ k = 0) (h2 : ¬ k = 2) {s : List UInt8} (hs : ¬ t = s) (r : List Tok) : Stop s (x :: r) := by
  show isT s x = false
  rw [isT_of h h0 h2]; exact decide_eq_false hs
end Go.Proofs.Ytcgbcbdgjhnlaaa

