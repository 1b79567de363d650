/- Where a request goes: the functions that RouteFinds and RouteAll reach, each walked once. -/
import Derived.Test.YtkhgmmejgikgnaaCodeR
namespace Go.Proofs.Ytkhgmmejgikgnaa
open Go.RowKit
theorem short_x (s : ByteArray) (n : Nat) (W : PW) : CallsX Try.prog 5 ⟨[.string s, .int .i64 n]⟩ [] W fun v _ => v = strV (s.data.toList.take n) := by
  refine pureX hmix Try.func5 r5 (by kernel_rfl) [.string s, .int .i64 n] rfl ?_
  refine ⟨rfl, br_split (fun h => ?_) (fun h => ?_)⟩
  · refine ⟨by omega, ret_plain rfl fun _ _ => ?_⟩
    show strV _ = strV _
    congr 1
  · refine ret_plain rfl fun _ _ => ?_
    rw [List.take_of_length_le (by omega)]; rfl
theorem within_x (x : Int) (lo hi : Int) (W : PW) : CallsX Try.prog 13 ⟨[.int .i64 x, .int .i64 lo, .int .i64 hi]⟩ [] W fun v _ => v = .int .i64 (if x < lo then lo else if hi < x then hi else x) := by
  refine pureX hmix Try.func13 r13 (by kernel_rfl) [.int .i64 x, .int .i64 lo, .int .i64 hi] rfl ?_
  refine ⟨rfl, br_split (fun h => ?_) (fun h => ?_)⟩
  · exact ret_plain rfl fun _ _ => by simp [h]
  refine ⟨rfl, br_split (fun h2 => ?_) (fun h2 => ?_)⟩ <;> exact ret_plain rfl fun _ _ => by simp [h, h2]
def askedL (s : List UInt8) : Int :=
  if s = [47, 99, 104, 101, 99, 107] then 11 else if s = [47, 101, 120, 112, 97, 110, 100] then 12 else if s = [47, 108, 111, 111, 107, 117, 112] then 13 else if s = [47, 119, 97, 116, 99, 104] then 14 else if s = [47, 104, 101, 97, 108, 116, 104] then 18 else 0
theorem asked_x (s : ByteArray) (W : PW) : CallsX Try.prog 15 ⟨[.string s]⟩ [] W fun v _ => v = .int .i64 (askedL s.data.toList) := by
  refine pureX hmix Try.func15 r15 (by kernel_rfl) [.string s] rfl ?_
  repeat' first
    | refine br_split (fun h => ?_) (fun h => ?_)
    | refine ret_plain rfl fun _ _ => ?_
  all_goals simp only [askedL, *]; rfl
def placesL (s : List UInt8) : Int × Int :=
  if s = [47, 97, 117, 116, 104, 111, 114, 105, 122, 101] then (1, 0) else if s = [47, 116, 111, 107, 101, 110] then (2, 0) else if s = [47, 105, 110, 116, 114, 111, 115, 112, 101, 99, 116] then (3, 0) else
  if s = [47, 114, 101, 118, 111, 107, 101] then (4, 0) else if s = [47, 99, 111, 110, 115, 101, 110, 116] then (5, 0) else if s = [47, 119, 105, 116, 104, 100, 114, 97, 119] then (6, 0) else if s = [47, 99, 108, 105, 101, 110, 116, 115] then (7, 0) else
  if s = [47, 99, 108, 105, 101, 110, 116, 115, 47, 114, 101, 109, 111, 118, 101] then (8, 0) else if s = [47, 116, 117, 112, 108, 101, 115] then (9, 10) else if s = [47, 99, 111, 110, 102, 105, 103] then (15, 16) else if s = [47, 99, 111, 108, 108, 101, 99, 116] then (17, 0) else (0, askedL s)
theorem places_x (s : ByteArray) (W : PW) : CallsX Try.prog 14 ⟨[.string s]⟩ [] W fun v _ => v = .agg ⟨[.int .i64 (placesL s.data.toList).1, .int .i64 (placesL s.data.toList).2]⟩ := by
  refine pureX hmix Try.func14 r14 (by kernel_rfl) [.string s] rfl ?_
  repeat' first
    | refine br_split (fun h => ?_) (fun h => ?_)
    | refine ret_plain rfl fun _ _ => ?_
    | (refine call_v rfl (fun W' _ => asked_x s W') (fun W' v W'' _ _ h => ?_); subst h)
  all_goals simp only [placesL, *]; rfl
theorem eqOK40 : EqOK Try.prog 40 [40] := ⟨Try.eqGuardType40, fun s hs => by rw [List.mem_singleton.1 hs]; exact Try.stoodInHeld40⟩
def findL (m p : List UInt8) : Int × Int :=
  if (placesL p).1 = 0 ∧ (placesL p).2 = 0 then (0, 24) else if m = [80, 79, 83, 84] ∧ 0 < (placesL p).1 then ((placesL p).1, 0) else if m = [71, 69, 84] ∧ 0 < (placesL p).2 then ((placesL p).2, 0) else (0, 23)
def intPair (p : Int × Int) : Value := .tuple ⟨[.int .i64 p.1, .int .i64 p.2]⟩
theorem find_x (m p : ByteArray) (W : PW) : CallsX Try.prog 6 ⟨[.string m, .string p]⟩ [] W fun v _ => v = intPair (findL m.data.toList p.data.toList) := by
  refine pureX hmix Try.func6 r6 (by kernel_rfl) [.string m, .string p] rfl ?_
  refine call_v rfl (fun W' _ => places_x p W') (fun W' v W'' _ _ h => ?_)
  obtain ⟨a, b, hab, rfl⟩ : ∃ a b, placesL p.data.toList = (a, b) ∧ v = .agg ⟨[.int .i64 a, .int .i64 b]⟩ := ⟨_, _, rfl, h⟩
  refine ⟨eqOK40, br_bool (fun h => ?_) (fun h => ?_)⟩
  · refine ret_plain rfl fun _ _ => ?_
    simp only [Bool.and_true, Bool.and_eq_true, decide_eq_true_eq] at h
    simp [h, intPair, findL, hab]
  simp only [Bool.and_true, Bool.and_eq_false_iff, decide_eq_false_iff_not] at h
  have h' : ¬ (a = 0 ∧ b = 0) := by omega
  have e : findL m.data.toList p.data.toList = if m.data.toList = [80, 79, 83, 84] ∧ 0 < a then (a, 0) else if m.data.toList = [71, 69, 84] ∧ 0 < b then (b, 0) else (0, 23) := by
    simp only [findL, hab]; rw [if_neg h']
  clear h h'
  repeat' first
    | refine ⟨rfl, ?_⟩
    | refine br_split (fun h => ?_) (fun h => ?_)
    | refine ret_plain rfl fun _ _ => ?_
  all_goals rw [e]; clear e hab; simp_all [intPair, Int.not_lt]
  all_goals (rw [if_neg (by omega)]; exact ⟨rfl, rfl⟩)

def strCells : List (List UInt8 × List UInt8 × Int) → List Value
  | [] => []
  | r :: l => strV r.1 :: strV r.2.1 :: .int .i64 r.2.2 :: strCells l
def tableL : List (List UInt8 × List UInt8 × Int) :=
  [([47, 97, 117, 116, 104, 111, 114, 105, 122, 101], [80, 79, 83, 84], 1), ([47, 116, 111, 107, 101, 110], [80, 79, 83, 84], 2), ([47, 105, 110, 116, 114, 111, 115, 112, 101, 99, 116], [80, 79, 83, 84], 3),
   ([47, 114, 101, 118, 111, 107, 101], [80, 79, 83, 84], 4), ([47, 99, 111, 110, 115, 101, 110, 116], [80, 79, 83, 84], 5), ([47, 119, 105, 116, 104, 100, 114, 97, 119], [80, 79, 83, 84], 6), ([47, 99, 108, 105, 101, 110, 116, 115], [80, 79, 83, 84], 7),
   ([47, 99, 108, 105, 101, 110, 116, 115, 47, 114, 101, 109, 111, 118, 101], [80, 79, 83, 84], 8), ([47, 116, 117, 112, 108, 101, 115], [71, 69, 84], 10), ([47, 116, 117, 112, 108, 101, 115], [80, 79, 83, 84], 9), ([47, 99, 104, 101, 99, 107], [71, 69, 84], 11),
   ([47, 101, 120, 112, 97, 110, 100], [71, 69, 84], 12), ([47, 108, 111, 111, 107, 117, 112], [71, 69, 84], 13), ([47, 119, 97, 116, 99, 104], [71, 69, 84], 14), ([47, 99, 111, 110, 102, 105, 103], [71, 69, 84], 16), ([47, 99, 111, 110, 102, 105, 103], [80, 79, 83, 84], 15),
   ([47, 99, 111, 108, 108, 101, 99, 116], [80, 79, 83, 84], 17), ([47, 104, 101, 97, 108, 116, 104], [71, 69, 84], 18)]
theorem strCells_get : ∀ {l : List (List UInt8 × List UInt8 × Int)} {i : Nat} {r}, l[i]? = some r → (strCells l)[i * 3 + 0]? = some (strV r.1) ∧ (strCells l)[i * 3 + 1]? = some (strV r.2.1) ∧ (strCells l)[i * 3 + 2]? = some (.int .i64 r.2.2)
  | [], i, r, h => by simp at h
  | a :: l, 0, r, h => by
    simp only [List.getElem?_cons_zero, Option.some.injEq] at h
    subst h; exact ⟨rfl, rfl, rfl⟩
  | a :: l, i + 1, r, h => by
    rw [List.getElem?_cons_succ] at h
    obtain ⟨h1, h2, h3⟩ := strCells_get h
    have e : ∀ k, (i + 1) * 3 + k = (i * 3 + k) + 1 + 1 + 1 := fun k => by omega
    rw [e, e, e]
    exact ⟨h1, h2, h3⟩
theorem table_x (W : PW) : CallsX Try.prog 12 ⟨[]⟩ [] W fun v W' => SlRead W' v 18 (strCells tableL) := by
  refine pureX hmix Try.func12 r12 (by kernel_rfl) [] rfl ?_
  refine ⟨rfl, fun b W' _ h => ret_plain rfl fun W'' l => ?_⟩
  exact (SlRead.of_rds h (by decide)).mono l
def goFind (m p : List UInt8) : Int → List (List UInt8 × List UInt8 × Int) → Int × Int
  | e, [] => (0, e)
  | e, r :: l => if r.1 = p then (if r.2.1 = m then (r.2.2, 0) else goFind m p 23 l) else goFind m p e l
theorem reffind_x (m p : ByteArray) (W : PW) : CallsX Try.prog 7 ⟨[.string m, .string p]⟩ [] W fun v _ => v = intPair (goFind m.data.toList p.data.toList 24 tableL) := by
  refine pureX hmix Try.func7 r7 (by kernel_rfl) [.string m, .string p] rfl ?_
  refine call_v rfl (fun W' _ => table_x W') (fun W₁ v W₂ _ _ hT => ?_)
  obtain ⟨A, c, rfl, hc1, hc2⟩ := hT.form
  refine ⟨Nat × Int, fun t => [(8, .v (.int .i64 t.1)), (7, .v (.int .i64 t.2))], fun _ => [], fun _ => [], fun t _ => t.1 ≤ 18 ∧ goFind m.data.toList p.data.toList 24 tableL = goFind m.data.toList p.data.toList t.2 (tableL.drop t.1), fun t => 18 - t.1, (0, 24),
    all_sl ⟨rfl, rfl, trivial⟩, rfl, ole_refl _, ⟨by omega, rfl⟩, loopOK (fun _ => ⟨⟨trivial, rfl⟩, ⟨trivial, rfl⟩, trivial⟩) (fun _ => rfl) (fun _ => rfl), ?_⟩
  rintro ⟨i, e⟩ W₃ hl ⟨hi, hI⟩ g
  refine ⟨rfl, br_split (fun h => ?_) (fun h => ?_)⟩
  · have hi' : i < tableL.length := by have : tableL.length = 18 := rfl; omega
    obtain ⟨a, rfl, hr, _⟩ := hT.get (W' := W₃) hl (j := i) ⟨by omega, by omega⟩ 3
    obtain ⟨k0, k1, k2⟩ := strCells_get (List.getElem?_eq_getElem hi')
    rw [List.drop_eq_getElem_cons hi'] at hI
    refine ⟨⟨by omega, by omega⟩, a, rfl, _, hr 0 _ k0, br_split (fun h1 => ?_) (fun h1 => ?_)⟩
    · refine ⟨⟨by omega, by omega⟩, a, rfl, _, hr 1 _ k1, br_split (fun h2 => ?_) (fun h2 => ?_)⟩
      · refine ⟨⟨by omega, by omega⟩, a, rfl, _, hr 2 _ k2, ret_plain rfl fun _ _ => ?_⟩
        rw [hI]
        have h1' : (tableL[i]).1 = p.data.toList := h1
        have h2' : (tableL[i]).2.1 = m.data.toList := h2
        simp only [goFind, h1', h2', if_true]; rfl
      · have h1' : (tableL[i]).1 = p.data.toList := h1
        have h2' : ¬ (tableL[i]).2.1 = m.data.toList := h2
        refine ⟨rfl, _, (i64_in ((i : Int) + 1) ⟨by omega, by omega⟩).symm, (i + 1, 23), all_sl ⟨rfl, rfl, trivial⟩, rfl, ole_refl _, ⟨by omega, ?_⟩, by dsimp only; omega⟩
        rw [hI]; simp only [goFind, h1', h2', if_true, if_false]
    · have h1' : ¬ (tableL[i]).1 = p.data.toList := h1
      refine ⟨rfl, _, (i64_in ((i : Int) + 1) ⟨by omega, by omega⟩).symm, (i + 1, e), all_sl ⟨rfl, rfl, trivial⟩, rfl, ole_refl _, ⟨by omega, ?_⟩, by dsimp only; omega⟩
      rw [hI]; simp only [goFind, h1', if_false]
  · have e18 : tableL.length = 18 := rfl
    refine ret_plain rfl fun _ _ => ?_
    rw [hI, List.drop_eq_nil_of_le (by omega)]
    rfl

def allowedL (p : List UInt8) : List (List UInt8) :=
  (if 0 < (placesL p).2 then [[71, 69, 84]] else []) ++ (if 0 < (placesL p).1 then [[80, 79, 83, 84]] else [])
theorem allowed_x (p : ByteArray) (W : PW) : CallsX Try.prog 9 ⟨[.string p]⟩ [] W fun v W' => RStrs W' v (allowedL p.data.toList) := by
  refine pureNX hmix Try.func9 r9 (by kernel_rfl) [nilO 9 1] rfl [.string p] rfl ?_
  refine call_v rfl (fun W' _ => places_x p W') (fun W' v W'' _ _ h => ?_)
  obtain ⟨a, b, hab, rfl⟩ : ∃ a b, placesL p.data.toList = (a, b) ∧ v = .agg ⟨[.int .i64 a, .int .i64 b]⟩ := ⟨_, _, rfl, h⟩
  refine ⟨rfl, br_split (fun h1 => ?_) (fun h1 => ?_)⟩
  · refine ⟨rfl, fun B1 W1 _ hr1 => ⟨0, _, [strV [71, 69, 84]], rfl, rfl, rfl, rfl, rfl, fun u hu => ?_, fun _ => ⟨_, rfl, hr1⟩, by decide, by decide, fun A1 c1 => ?_⟩⟩
    · rw [List.mem_singleton.1 hu]; rfl
    refine ⟨rfl, br_split (fun h2 => ?_) (fun h2 => ?_)⟩
    · refine ⟨rfl, fun B2 W2 _ hr2 => ⟨0, _, [strV [80, 79, 83, 84]], rfl, rfl, rfl, rfl, rfl, fun u hu => ?_, fun _ => ⟨_, rfl, hr2⟩, (by decide : (2 : Nat) ≤ maxLen), (by decide : (2 : Nat) * 16 ≤ 140737488355328), fun A2 c2 => ?_⟩⟩
      · rw [List.mem_singleton.1 hu]; rfl
      refine RetVC.freeze (fun _ hb => hb) (i := 0) rfl fun W3 _ hf => ret_plain rfl fun W4 l4 => ?_
      have := hf.mono l4
      simp only [RStrs, allowedL, hab, if_pos h1, if_pos h2]; exact this
    · refine RetVC.freeze (fun _ hb => hb) (i := 0) rfl fun W3 _ hf => ret_plain rfl fun W4 l4 => ?_
      have := hf.mono l4
      simp only [RStrs, allowedL, hab, if_pos h1, if_neg h2]; exact this
  · refine ⟨rfl, br_split (fun h2 => ?_) (fun h2 => ?_)⟩
    · refine ⟨rfl, fun B2 W2 _ hr2 => ⟨0, _, [strV [80, 79, 83, 84]], rfl, rfl, rfl, rfl, rfl, fun u hu => ?_, fun _ => ⟨_, rfl, hr2⟩, by decide, by decide, fun A2 c2 => ?_⟩⟩
      · rw [List.mem_singleton.1 hu]; rfl
      refine RetVC.freeze (fun _ hb => hb) (i := 0) rfl fun W3 _ hf => ret_plain rfl fun W4 l4 => ?_
      have := hf.mono l4
      simp only [RStrs, allowedL, hab, if_neg h1, if_pos h2]; exact this
    · refine RetVC.freeze (fun _ hb => hb) (i := 0) rfl fun W3 _ hf => ret_plain rfl fun W4 l4 => ?_
      have := hf.mono l4
      simp only [RStrs, allowedL, hab, if_neg h1, if_neg h2]; exact this

theorem ole_eq {O O' : List Own} (h : O = O') : OLe O O' := h ▸ ole_refl O
def goAllowed (p : List UInt8) : List (List UInt8 × List UInt8 × Int) → List (List UInt8)
  | [] => []
  | r :: l => if r.1 = p then r.2.1 :: goAllowed p l else goAllowed p l
theorem map_strV_one (l : List (List UInt8)) : ∀ u ∈ l.map strV, u.oneCell' = true := fun u hu => by
  obtain ⟨x, _, rfl⟩ := List.mem_map.1 hu; rfl
theorem refallowed_x (p : ByteArray) (W : PW) : CallsX Try.prog 10 ⟨[.string p]⟩ [] W fun v W' => RStrs W' v (goAllowed p.data.toList tableL) := by
  refine pureNX hmix Try.func10 r10 (by kernel_rfl) [nilO 9 1] rfl [.string p] rfl ?_
  refine call_v rfl (fun W' _ => table_x W') (fun W₁ v W₂ _ _ hT => ?_)
  obtain ⟨A, c, rfl, hc1, hc2⟩ := hT.form
  refine ⟨Nat × Value × List (List UInt8), fun t => [(5, .v (.int .i64 t.1)), (4, .v t.2.1)], fun _ => [], fun t => [⟨t.2.1, 9, 1, t.2.2.length, t.2.2.map strV⟩], fun t _ => t.1 ≤ 18 ∧ t.2.2.length ≤ t.1 ∧ (∃ A c, t.2.1 = .slice A t.2.2.length c) ∧ goAllowed p.data.toList tableL = t.2.2 ++ goAllowed p.data.toList (tableL.drop t.1), fun t => 18 - t.1, (0, .slice none 0 0, []),
    all_sl ⟨rfl, rfl, trivial⟩, rfl, ole_refl _, ⟨by omega, Nat.le_refl 0, ⟨none, 0, rfl⟩, rfl⟩, loopOK (fun _ => ⟨⟨trivial, rfl⟩, ⟨trivial, rfl⟩, trivial⟩) (fun _ => rfl) (fun _ => rfl), ?_⟩
  rintro ⟨i, u, ls⟩ W₃ hl ⟨hi, hlen, ⟨A', c', hu⟩, hI⟩ g
  dsimp only at hi hlen hu hI
  subst hu
  have e18 : tableL.length = 18 := rfl
  refine ⟨rfl, br_split (fun h => ?_) (fun h => ?_)⟩
  · have hi' : i < tableL.length := by omega
    obtain ⟨a, rfl, hr, _⟩ := hT.get (W' := W₃) hl (j := i) ⟨by omega, by omega⟩ 3
    obtain ⟨k0, k1, k2⟩ := strCells_get (List.getElem?_eq_getElem hi')
    rw [List.drop_eq_getElem_cons hi'] at hI
    refine ⟨⟨by omega, by omega⟩, a, rfl, _, hr 0 _ k0, br_split (fun h1 => ?_) (fun h1 => ?_)⟩
    · have h1' : (tableL[i]).1 = p.data.toList := h1
      refine ⟨⟨by omega, by omega⟩, a, rfl, _, hr 1 _ k1, rfl, fun B1 W1 _ hr1 => ⟨0, _, [strV (tableL[i]).2.1], rfl, rfl, rfl, rfl, rfl, fun u hu => ?_, fun _ => ⟨_, rfl, hr1⟩, ?_, ?_, fun A1 c1 => ?_⟩⟩
      · rw [List.mem_singleton.1 hu]; rfl
      · have : (20 : Nat) ≤ maxLen := by decide
        show ls.length + 1 ≤ maxLen; omega
      · show (ls.length + 1) * 16 ≤ 140737488355328; omega
      · refine ⟨rfl, _, (i64_in ((i : Int) + 1) ⟨by omega, by omega⟩).symm, (i + 1, .slice A1 (ls.length + 1) c1, ls ++ [(tableL[i]).2.1]), all_sl ⟨rfl, rfl, trivial⟩, rfl, ole_eq ?_, ⟨by omega, ?_, ⟨A1, c1, ?_⟩, ?_⟩, by dsimp only; omega⟩
        · show [_] = [_]
          simp
        · simp; omega
        · simp
        · rw [hI]; simp only [goAllowed, h1', if_true, List.append_assoc, List.singleton_append]
    · have h1' : ¬ (tableL[i]).1 = p.data.toList := h1
      refine ⟨rfl, _, (i64_in ((i : Int) + 1) ⟨by omega, by omega⟩).symm, (i + 1, .slice A' ls.length c', ls), all_sl ⟨rfl, rfl, trivial⟩, rfl, ole_refl _, ⟨by omega, Nat.le_succ_of_le hlen, ⟨A', c', rfl⟩, ?_⟩, by dsimp only; omega⟩
      rw [hI]; simp only [goAllowed, h1', if_false]
  · refine RetVC.freeze (fun _ hb => hb) (i := 0) rfl fun W3 _ hf => ret_plain rfl fun W4 l4 => ?_
    have := hf.mono l4
    rw [hI, List.drop_eq_nil_of_le (by omega)]
    simpa [RStrs, goAllowed] using this

theorem same_x (u v : Value) (ls ms : List (List UInt8)) (W : PW) (hu : RStrs W u ls) (hv : RStrs W v ms) (hlen : ls.length ≤ 4611686018427387904) : CallsX Try.prog 8 ⟨[u, v]⟩ [] W fun r _ => r = .bool (decide (ls = ms)) := by
  refine pureX hmix Try.func8 r8 (by kernel_rfl) [u, v] rfl ?_
  obtain ⟨A, c, rfl, hc1, hc2⟩ := hu.form
  obtain ⟨A', c', rfl, hc1', hc2'⟩ := hv.form
  refine ⟨rfl, br_nsplit (fun h => ?_) (fun h => ?_)⟩
  · refine ret_plain rfl fun _ _ => ?_
    rw [decide_eq_false]; intro e; apply h; rw [e]
  have hlen2 : ls.length = ms.length := by omega
  refine ⟨Nat, fun t => [(5, .v (.int .i64 t))], fun _ => [], fun _ => [], fun t _ => t ≤ ls.length ∧ ls.take t = ms.take t, fun t => ls.length - t, 0,
    all_sl ⟨rfl, trivial⟩, rfl, ole_refl _, ⟨by omega, rfl⟩, loopOK (fun _ => ⟨⟨trivial, rfl⟩, trivial⟩) (fun _ => rfl) (fun _ => rfl), ?_⟩
  rintro i W₃ hl ⟨hi, hI⟩ g
  refine ⟨rfl, br_split (fun h => ?_) (fun h => ?_)⟩
  · have hi1 : i < ls.length := by omega
    have hi2 : i < ms.length := by omega
    obtain ⟨a, rfl, _, hr⟩ := SlRead.get hu (W' := W₃) hl (j := i) ⟨by omega, by omega⟩ 1
    obtain ⟨a', rfl, _, hr'⟩ := SlRead.get hv (W' := W₃) hl (j := i) ⟨by omega, by omega⟩ 1
    have k1 : (ls.map strV)[(i : Int).toNat * 1]? = some (strV ls[i]) := by simp [hi1]
    have k2 : (ms.map strV)[(i : Int).toNat * 1]? = some (strV ms[i]) := by simp [hi2]
    refine ⟨⟨by omega, by omega⟩, a, rfl, _, hr _ k1, ⟨by omega, by omega⟩, a', rfl, _, hr' _ k2, br_nsplit (fun h => ?_) (fun h => ?_)⟩
    · refine ret_plain rfl fun _ _ => ?_
      have h' : ¬ ls[i] = ms[i] := h
      rw [decide_eq_false]; intro e; subst e; exact h' rfl
    · have h' : ls[i] = ms[i] := h
      refine ⟨rfl, _, (i64_in ((i : Int) + 1) ⟨by omega, by omega⟩).symm, i + 1, all_sl ⟨rfl, trivial⟩, rfl, ole_refl _, ⟨by omega, ?_⟩, by dsimp only; omega⟩
      rw [List.take_add_one, List.take_add_one, hI]; simp [hi1, hi2, h']
  · refine ret_plain rfl fun _ _ => ?_
    rw [List.take_of_length_le (by omega), List.take_of_length_le (by omega)] at hI
    rw [decide_eq_true hI]
theorem lives_x (W : PW) : CallsX Try.prog 11 ⟨[]⟩ [] W fun r _ => r = .bool true := by
  refine pureX hmix Try.func11 r11 (by kernel_rfl) [] rfl ?_
  refine call_v rfl (fun W' _ => find_x _ _ W') (fun W' v W'' _ _ h => ?_)
  have h' : v = .tuple ⟨[.int .i64 2, .int .i64 0]⟩ := h
  subst h'
  refine ⟨_, rfl, _, rfl, ?_⟩
  exact ⟨rfl, rfl, ret_plain rfl fun _ _ => rfl⟩

def FindsOK (m p : List UInt8) : Prop := findL m p = goFind m p 24 tableL ∧ allowedL p = goAllowed p tableL
theorem allowedL_len (p : List UInt8) : (allowedL p).length ≤ 4611686018427387904 := by unfold allowedL; split <;> split <;> decide
theorem finds_x (m p : ByteArray) (W : PW) (hok : FindsOK (m.data.toList.take 20) (p.data.toList.take 40)) : CallsX Try.prog 3 ⟨[.string m, .string p]⟩ [] W fun r _ => r = .bool true := by
  refine pureX hmix Try.func3 r3 (by kernel_rfl) [.string m, .string p] rfl ?_
  refine call_v rfl (fun W' => fun _ => short_x m 20 W') (fun W1 v W1' _ _ h => ?_); subst h
  refine call_v rfl (fun W' => fun _ => short_x p 40 W') (fun W2 v W2' _ _ h => ?_); subst h
  refine call_v rfl (fun W' => fun _ => find_x _ _ W') (fun W3 v W3' _ _ h => ?_); subst h
  refine ⟨_, rfl, _, rfl, ?_⟩
  refine call_v rfl (fun W' => fun _ => reffind_x _ _ W') (fun W4 v W4' _ _ h => ?_); subst h
  refine ⟨_, rfl, _, rfl, ?_⟩
  obtain ⟨e1, e2⟩ := hok
  refine ⟨rfl, br_yes (congrArg Prod.fst e1) ?_⟩
  refine ⟨rfl, br_yes (congrArg Prod.snd e1) ?_⟩
  refine call_v rfl (fun W' => fun _ => allowed_x _ W') (fun W5 v5 W5' _ _ h5 => ?_)
  refine call_v rfl (fun W' => fun _ => refallowed_x _ W') (fun W6 v6 W6' l5 l6 h6 => ?_)
  refine call_v rfl (fun W' hl => same_x v5 v6 _ _ W' ((h5.mono (l5.trans l6)).mono hl) (h6.mono hl) (allowedL_len _)) (fun W7 v W7' _ _ h => ?_); subst h
  refine br_yes e2 ?_
  refine call_v rfl (fun W' => fun _ => lives_x W') (fun W8 v W8' _ _ h => ?_); subst h
  exact ret_plain rfl fun _ _ => rfl
end Go.Proofs.Ytkhgmmejgikgnaa
