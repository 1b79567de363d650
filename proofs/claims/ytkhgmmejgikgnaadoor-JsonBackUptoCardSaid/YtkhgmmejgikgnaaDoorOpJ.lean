/- JsonBack's argument: a value that is handed in, and its bulk. -/
import Derived.Test.YtkhgmmejgikgnaaDoorGT
import Derived.Test.YtkhgmmejgikgnaaDoorGL
import Derived.Test.YtkhgmmejgikgnaaDoorRows
namespace Go.Proofs.YtkhgmmejgikgnaaDoor
open Go.ChangeShapes Go.WideShapes Go.ChangeAt Go.RowKit

/-! ## Sizes, plain -/
mutual
def szJ : JT → Nat
  | .mk _ _ _ t l ks => t.length + szJs l + (ks.map fun k => k.length + 1).sum + 7
def szJs : List JT → Nat
  | [] => 0
  | x :: r => szJ x + szJs r
end
theorem szJs_map : ∀ l : List JT, szJs l = (l.map szJ).sum
  | [] => by rw [szJs]; rfl
  | x :: r => by rw [szJs, szJs_map r]; rfl
theorem sum_le {α β : Type} {f : α → Nat} {g : β → Nat} {h : α → β} : ∀ {l : List α}, (∀ x ∈ l, g (h x) ≤ f x) → ((l.map h).map g).sum ≤ (l.map f).sum
  | [], _ => Nat.le_refl _
  | x :: r, hx => by
    have h1 := hx x (by simp)
    have h2 := sum_le (l := r) fun y hy => hx y (by simp [hy])
    simp only [List.map_cons, List.sum_cons]; omega
theorem sum_take {α : Type} (f : α → Nat) : ∀ (n : Nat) (l : List α), ((l.take n).map f).sum ≤ (l.map f).sum
  | 0, l => by simp
  | n + 1, [] => by simp
  | n + 1, x :: r => by
    have := sum_take f n r
    simp only [List.take_succ_cons, List.map_cons, List.sum_cons]; omega
theorem sz_small : ∀ (d : Nat) (x : JT), szJ (smallT d x) ≤ szJ x
  | 0, .mk k b i t l ks => by
    have h1 := sum_take (fun k : List UInt8 => k.length + 1) 6 ks
    have h2 := sum_le (f := fun k : List UInt8 => k.length + 1) (g := fun k : List UInt8 => k.length + 1) (h := fun k : List UInt8 => k.take 20) (l := ks.take 6) (fun x _ => by show (x.take 20).length + 1 ≤ x.length + 1; rw [List.length_take]; omega)
    rw [smallT, szJ, szJ, szJs, List.length_take]
    omega
  | d + 1, .mk k b i t l ks => by
    have h1 := sum_take (fun k : List UInt8 => k.length + 1) 6 ks
    have h2 := sum_le (f := fun k : List UInt8 => k.length + 1) (g := fun k : List UInt8 => k.length + 1) (h := fun k : List UInt8 => k.take 20) (l := ks.take 6) (fun x _ => by show (x.take 20).length + 1 ≤ x.length + 1; rw [List.length_take]; omega)
    have h3 := sum_take szJ 6 l
    have h4 := sum_le (f := szJ) (g := szJ) (h := smallT d) (l := l.take 6) (fun x _ => sz_small d x)
    rw [smallT, szJ, szJ, szJs_map, szJs_map, List.length_take]
    omega
theorem catC_sum (l : List (List UInt8)) : (catC l).length = (l.map fun t => t.length + 1).sum := by
  induction l with
  | nil => rfl
  | cons x l ih =>
    show (44 :: (x ++ catC l)).length = _
    simp only [List.map_cons, List.sum_cons, List.length_cons, List.length_append, ih]; omega
theorem mul_sum (c : Nat) (l : List Nat) : (l.map fun x => c * x).sum = c * l.sum := by
  induction l with
  | nil => simp
  | cons x l ih => simp only [List.map_cons, List.sum_cons, ih, Nat.mul_add]
theorem zip_sum {α : Type} (f : α → Nat) (g : List UInt8 → Nat) : ∀ (ks : List (List UInt8)) (l : List α), ((ks.zip l).map fun p => g p.1 + f p.2).sum ≤ (ks.map g).sum + (l.map f).sum
  | [], l => by simp
  | k :: ks, [] => by simp
  | k :: ks, x :: l => by
    have := zip_sum f g ks l
    simp only [List.zip_cons_cons, List.map_cons, List.sum_cons]; omega
theorem text_sz : ∀ (d : Nat) (x : JT), rightT d x = true → (textT d x).length + 1 ≤ 16 * szJ x
  | 0, x, h => by cases h
  | d + 1, .mk k b i t l ks, h => by
    have ih := fun x hx => text_sz d x hx
    rw [szJ]
    by_cases e0 : k = 0
    · subst e0; show 4 + 1 ≤ _; omega
    by_cases e1 : k = 1
    · subst e1
      show (if b = true then trueS' else falseS').length + 1 ≤ _
      split
      · show 4 + 1 ≤ _; omega
      · show 5 + 1 ≤ _; omega
    by_cases e2 : k = 2
    · subst e2
      have h : (bareB false true false false false b i t l.length ks.length && (decide (-9007199254740992 ≤ i) && decide (i ≤ 9007199254740992))) = true := h
      rw [Bool.and_eq_true, Bool.and_eq_true, decide_eq_true_eq, decide_eq_true_eq] at h
      have := Lib.itoa_length_le i (by omega) (by omega)
      show (Lib.itoa i).length + 1 ≤ _
      omega
    by_cases e3 : k = 3
    · subst e3
      have := quoteT_len t
      show (quoteT t).length + 1 ≤ _
      omega
    by_cases e4 : k = 4
    · subst e4
      have h : (bareB false false false true false b i t l.length ks.length && l.all (rightT d)) = true := h
      rw [Bool.and_eq_true, List.all_eq_true] at h
      show ([91] ++ joinC (itemsT 4 ks (l.map (textT d)) l.length) ++ [93] : List UInt8).length + 1 ≤ _
      rw [show l.length = (l.map (textT d)).length by simp, items4]
      have h1 := (joinC_catC (l.map (textT d))).1
      rw [catC_sum] at h1
      have h2 := sum_le (f := fun x => 16 * szJ x) (g := fun t : List UInt8 => t.length + 1) (h := textT d) (l := l) (fun x hx => ih x (h.2 x hx))
      have h3 : (l.map fun x => 16 * szJ x).sum = 16 * szJs l := by rw [szJs_map, ← mul_sum, List.map_map]; rfl
      rw [h3] at h2
      simp only [List.length_append, List.length_cons, List.length_nil]
      omega
    by_cases e5 : k = 5
    · subst e5
      have h : (bareB false false false true true b i t l.length ks.length && decide ((ks.length : Int) = l.length) && distinctT ks && l.all (rightT d)) = true := h
      rw [Bool.and_eq_true, Bool.and_eq_true, Bool.and_eq_true, List.all_eq_true, decide_eq_true_eq] at h
      obtain ⟨⟨⟨h1, h2⟩, h3⟩, h4⟩ := h
      show ([123] ++ joinC (itemsT 5 ks (l.map (textT d)) l.length) ++ [125] : List UInt8).length + 1 ≤ _
      rw [items5 _ _ _ (by omega)]
      have g1 := (joinC_catC ((ks.zip l).map (kvT (textT d)))).1
      rw [catC_sum] at g1
      have g2 := sum_le (f := fun p : List UInt8 × JT => 16 * (p.1.length + 1) + 16 * szJ p.2) (g := fun t : List UInt8 => t.length + 1) (h := kvT (textT d)) (l := ks.zip l) (fun p hp => by
        have q1 := ih p.2 (h4 p.2 (List.of_mem_zip hp).2)
        have q2 := quoteT_len p.1
        unfold kvT
        simp only [List.length_append, List.length_cons, List.length_nil]; omega)
      have g3 := zip_sum (fun x => 16 * szJ x) (fun k : List UInt8 => 16 * (k.length + 1)) ks l
      have g4 : (l.map fun x => 16 * szJ x).sum = 16 * szJs l := by rw [szJs_map, ← mul_sum, List.map_map]; rfl
      have g5 : (ks.map fun k : List UInt8 => 16 * (k.length + 1)).sum = 16 * (ks.map fun k : List UInt8 => k.length + 1).sum := by rw [← mul_sum, List.map_map]; rfl
      rw [g4, g5] at g3
      simp only [List.length_append, List.length_cons, List.length_nil]
      omega
    simp [rightT, e0, e1, e2, e3, e4, e5] at h

/-! ## Handed in -/
theorem bulk_app {H : Type} (l r : List (DataW H)) : Rows.uptoBulkAll (l ++ r) = Rows.uptoBulkAll l + Rows.uptoBulkAll r := by
  induction l with
  | nil => simp [Rows.uptoBulkAll]
  | cons x l ih => simp only [List.cons_append, Rows.uptoBulkAll, ih]; omega
theorem bulk_mem {H : Type} {d : DataW H} {l : List (DataW H)} (h : d ∈ l) : Rows.uptoBulk d ≤ Rows.uptoBulkAll l := by
  induction l with
  | nil => cases h
  | cons x r ih =>
    simp only [Rows.uptoBulkAll]
    cases List.mem_cons.1 h with
    | inl e => subst e; omega
    | inr e => have := ih e; omega
section
variable {H : Type} {enc : TypeId × Value → H} {w : World} {base : Nat} {spare : Nat → Bool} {held : Bool}
theorem open_RPz {α : Type} {f : α → List Value} {g : α → Nat} {Q : α → Prop} {t e sz fuel : Nat} {v : Value} {x : DataW H × List MemPlace} (ht : Tryd.prog.underlying t = some (.slice e)) (hsz : Tryd.prog.cellsOf e = sz) (hf : ∀ z, (f z).length = sz)
    (hel : ∀ (n : Nat) (cs : List Value) (y : DataW H × List MemPlace), Rows.uptoBulk y.1 < Rows.uptoBulk x.1 → DataW.trod enc Tryd.prog w base spare held n e cs = some y → ∃ z : α, Q z ∧ cs = f z ∧ g z ≤ Rows.uptoBulk y.1)
    (h : DataW.trod enc Tryd.prog w base spare held fuel t [v] = some x) : ∃ xs : List α, (∀ z ∈ xs, Q z) ∧ RP f (PW.all w) v xs ∧ (xs.map g).sum + 1 ≤ Rows.uptoBulk x.1 := by
  rcases Go.Deep.open_slice ht h with ⟨hv, hx0⟩ | ⟨a, len, cap, m, n, D, Pl, hv, hb, hl, hm, hmm, hx0, hx⟩
  · simp only [List.cons.injEq, and_true] at hv
    subst hv hx0
    exact ⟨[], (fun z hz => by cases hz), RP.nil _ _, by simp [Rows.uptoBulk]⟩
  · simp only [List.cons.injEq, and_true] at hv
    subst hv
    have hlm : len ≤ m := by rw [hmm]; split <;> omega
    have hbulk : Rows.uptoBulkAll ((List.range len).map D) + 1 ≤ Rows.uptoBulk x.1 := by rw [hx0]; simp only [Rows.uptoBulk]; omega
    have key : ∀ k, k ≤ len → ∃ xs : List α, xs.length = k ∧ (∀ z ∈ xs, Q z) ∧ Rds (PW.all w) a (xs.map f).flatten ∧ (xs.map g).sum ≤ Rows.uptoBulkAll ((List.range k).map D) := by
      intro k
      induction k with
      | zero => intro _; exact ⟨[], rfl, (fun z hz => by cases hz), (fun j v hj => by simp at hj), by simp⟩
      | succ k ih =>
        intro hk
        obtain ⟨xs, h1, h2, h4, h5⟩ := ih (by omega)
        obtain ⟨cs, c1, c2⟩ := hx k (by omega)
        rw [hsz] at c1
        obtain ⟨_, _, hcell⟩ := World.cells?_some c1
        have hlt : Rows.uptoBulk (D k) < Rows.uptoBulk x.1 := by
          have := bulk_mem (d := D k) (l := (List.range len).map D) (List.mem_map_of_mem (List.mem_range.2 (by omega)))
          omega
        obtain ⟨z, hq, hr, hz⟩ := hel _ _ _ hlt c2
        refine ⟨xs ++ [z], by simp [h1], fun y hy => ?_, fun j v hj => ?_, ?_⟩
        · rcases List.mem_append.1 hy with hy | hy
          · exact h2 y hy
          · rw [List.mem_singleton.1 hy]; exact hq
        · rw [flat_snoc] at hj
          have hfl := flat_len hf xs
          by_cases hjl : j < (xs.map f).flatten.length
          · rw [List.getElem?_append_left hjl] at hj
            exact h4 j v hj
          · rw [List.getElem?_append_right (by omega), ← hr] at hj
            have hjs := (List.getElem?_eq_some_iff.1 hj).1
            have := hcell (j - (xs.map f).flatten.length) (by rw [hr, hf] at hjs; exact hjs)
            rw [hj, Addr.add_add] at this
            rw [hfl, h1] at this hjl
            rw [show k * sz + (j - k * sz) = j by omega] at this
            exact rd_all this
        · rw [List.range_succ, List.map_append (f := D), bulk_app, List.map_append, List.sum_append]
          simp only [List.map_cons, List.map_nil, List.sum_cons, List.sum_nil, Rows.uptoBulkAll]
          have hz : g z ≤ Rows.uptoBulk (D k) := hz
          omega
    obtain ⟨xs, h1, h2, h4, h5⟩ := key len (Nat.le_refl _)
    refine ⟨xs, h2, ⟨some a, cap, ?_, by omega, hm, fun _ => ⟨a, rfl, h4⟩⟩, by omega⟩
    rw [h1]
theorem open_strz {fuel : Nat} {cs : List Value} {x : DataW H × List MemPlace} (h : DataW.trod enc Tryd.prog w base spare held fuel 9 cs = some x) : ∃ l : List UInt8, cs = sC l ∧ l.length + 1 ≤ Rows.uptoBulk x.1 := by
  obtain ⟨s, h1, h2, h3⟩ := DataW.trod_string Tryd.underlying9 h
  refine ⟨s.data.toList, h1, ?_⟩
  subst h2
  simp [Rows.uptoBulk]
theorem cells_json : Tryd.prog.cellsOf 77 = 6 := by kernel_rfl
theorem cells_bool : Tryd.prog.cellsOf 4 = 1 := by kernel_rfl
theorem cells_int1 : Tryd.prog.cellsOf 3 = 1 := by kernel_rfl
theorem cells_int64 : Tryd.prog.cellsOf 2 = 1 := by kernel_rfl
theorem cells_jsons : Tryd.prog.cellsOf 74 = 1 := by kernel_rfl
theorem cells_strs : Tryd.prog.cellsOf 75 = 1 := by kernel_rfl
theorem six {α : Type} : ∀ {l : List α}, l.length = 6 → ∃ a b c d e f, l = [a, b, c, d, e, f]
  | [a, b, c, d, e, f], _ => ⟨a, b, c, d, e, f, rfl⟩
  | [], h => by cases h
  | [_], h => by cases h
  | [_, _], h => by cases h
  | [_, _, _], h => by cases h
  | [_, _, _, _], h => by cases h
  | [_, _, _, _, _], h => by cases h
  | _ :: _ :: _ :: _ :: _ :: _ :: _ :: _, h => by simp at h
theorem open_json_of {fs : Array Field} (hu : Tryd.prog.underlying 77 = some (.struct fs)) (h6 : fs.size = 6) (g0 : ∃ f, fs[0]? = some f ∧ f.type = 3 ∧ f.offset = 0) (g1 : ∃ f, fs[1]? = some f ∧ f.type = 4 ∧ f.offset = 1) (g2 : ∃ f, fs[2]? = some f ∧ f.type = 2 ∧ f.offset = 2)
    (g3 : ∃ f, fs[3]? = some f ∧ f.type = 9 ∧ f.offset = 3) (g4 : ∃ f, fs[4]? = some f ∧ f.type = 74 ∧ f.offset = 4) (g5 : ∃ f, fs[5]? = some f ∧ f.type = 75 ∧ f.offset = 5) : ∀ (m : Nat) {fuel : Nat} {cs : List Value} {x : DataW H × List MemPlace}, Rows.uptoBulk x.1 ≤ m →
    DataW.trod enc Tryd.prog w base spare held fuel 77 cs = some x → ∃ j : JV, JOK (PW.all w) j ∧ cs = j.cells ∧ szJ j.er ≤ Rows.uptoBulk x.1
  | 0, _, _, x, hm, h => by
    obtain ⟨xs, n, _, rfl, _⟩ := DataW.trod_struct hu h
    simp [Rows.uptoBulk] at hm
  | m + 1, fuel, cs, x, hm, h => by
    have ih := @open_json_of fs hu h6 g0 g1 g2 g3 g4 g5 m
    obtain ⟨xs, n, _, rfl, hl, hlen, hf⟩ := DataW.trod_struct hu h
    rw [cells_json] at hl
    rw [h6] at hlen
    obtain ⟨x0, x1, x2, x3, x4, x5, rfl⟩ := six hlen
    obtain ⟨f0, a0, b0, c0⟩ := g0
    obtain ⟨f1, a1, b1, c1⟩ := g1
    obtain ⟨f2, a2, b2, c2⟩ := g2
    obtain ⟨f3, a3, b3, c3⟩ := g3
    obtain ⟨f4, a4, b4, c4⟩ := g4
    obtain ⟨f5, a5, b5, c5⟩ := g5
    have h0 := hf 0 f0 a0
    have h1 := hf 1 f1 a1
    have h2 := hf 2 f2 a2
    have h3 := hf 3 f3 a3
    have h4 := hf 4 f4 a4
    have h5 := hf 5 f5 a5
    rw [b0, c0, cells_int1] at h0
    rw [b1, c1, cells_bool] at h1
    rw [b2, c2, cells_int64] at h2
    rw [b3, c3, cells_string] at h3
    rw [b4, c4, cells_jsons] at h4
    rw [b5, c5, cells_strs] at h5
    obtain ⟨v0, v1, v2, v3, v4, v5, rfl⟩ := six hl
    simp only [List.drop_zero, List.take_succ_cons, List.take_zero, List.drop_succ_cons] at h0 h1 h2 h3 h4 h5
    obtain ⟨k, k0, q0, _⟩ := DataW.trod_int Tryd.underlying3 h0
    obtain ⟨b, k1, q1⟩ := DataW.trod_bool Tryd.underlying4 h1
    obtain ⟨i, k2, q2, _⟩ := DataW.trod_int Tryd.underlying2 h2
    obtain ⟨t, k3, q3⟩ := open_strz h3
    have hx : Rows.uptoBulk x0.1 + Rows.uptoBulk x1.1 + Rows.uptoBulk x2.1 + Rows.uptoBulk x3.1 + Rows.uptoBulk x4.1 + Rows.uptoBulk x5.1 + 1 = Rows.uptoBulk (H := H) (.agg ([x0, x1, x2, x3, x4, x5].map (·.1))) := by
      simp only [List.map_cons, List.map_nil, Rows.uptoBulk, Rows.uptoBulkAll]; omega
    obtain ⟨l, hl1, hl2, hl3⟩ := open_RPz (f := JV.cells) (g := fun j => szJ j.er) (Q := JOK (PW.all w)) Tryd.underlying74 cells_json JV.cells_len (fun n cs y hy hc => ih (by dsimp only at hm; omega) hc) h4
    obtain ⟨ks, _, hk2, hk3⟩ := open_RPz (f := sC) (g := fun k => k.length + 1) (Q := fun _ => True) Tryd.underlying75 cells_string (fun _ => rfl) (fun n cs y hy hc => by
      obtain ⟨z, z1, z2⟩ := open_strz hc
      exact ⟨z, trivial, z1, z2⟩) h5
    have hb0 : Rows.uptoBulk x0.1 = 1 := by subst q0; simp [Rows.uptoBulk]
    have hb1 : Rows.uptoBulk x1.1 = 1 := by subst q1; simp [Rows.uptoBulk]
    have hb2 : Rows.uptoBulk x2.1 = 1 := by subst q2; simp [Rows.uptoBulk]
    simp only [List.cons.injEq, and_true] at k0 k1 k2
    have k3 : v3 = strV t := by simpa [sC] using k3
    subst k0 k1 k2 k3
    refine ⟨.mk k b i t v4 l v5 ks, .mk hl2 hk2 hl1, rfl, ?_⟩
    show szJ (.mk k b i t (JV.ers l) ks) ≤ Rows.uptoBulk (.agg ([x0, x1, x2, x3, x4, x5].map (·.1)))
    rw [← hx, szJ, szJs_map, ers_map, List.map_map]
    have e : (l.map (szJ ∘ JV.er)).sum = (l.map fun j => szJ j.er).sum := rfl
    omega
theorem open_json {cells : Array Value} {d : DataW H} {ps : List MemPlace} (h : DataW.Trod enc Tryd.prog w base spare held 77 (.agg cells) d ps) : ∃ j : JV, JOK (PW.all w) j ∧ cells.toList = j.cells ∧ szJ j.er ≤ Rows.uptoBulk d := by
  obtain ⟨fuel, h⟩ := h
  have h : DataW.trod enc Tryd.prog w base spare held fuel 77 cells.toList = some (d, ps) := h
  exact open_json_of Tryd.underlying77 rfl ⟨_, rfl, rfl, rfl⟩ ⟨_, rfl, rfl, rfl⟩ ⟨_, rfl, rfl, rfl⟩ ⟨_, rfl, rfl, rfl⟩ ⟨_, rfl, rfl, rfl⟩ ⟨_, rfl, rfl, rfl⟩ _ (Nat.le_refl _) h
end
end Go.Proofs.YtkhgmmejgikgnaaDoor
