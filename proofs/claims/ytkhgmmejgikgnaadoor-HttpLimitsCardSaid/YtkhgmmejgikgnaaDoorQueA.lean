/- Layer 5 (query), walked: what is escaped, what is unescaped; the program's functions and the document's. -/
import Derived.Test.YtkhgmmejgikgnaaDoorQueL
import Derived.Test.YtkhgmmejgikgnaaDoorBldW
import Derived.Test.YtkhgmmejgikgnaaDoorCodeQA
namespace Go.Proofs.YtkhgmmejgikgnaaDoor
open Go.RowKit

theorem maxLen_big : 200000 ≤ maxLen := by decide
theorem br_t {b : Bool} {X Y : Prop} (h : b = true) (x : X) : Branch X Y b := by subst h; exact x
theorem br_f {b : Bool} {X Y : Prop} (h : b = false) (y : Y) : Branch X Y b := by subst h; exact y
theorem byteAt_get {s : List UInt8} {i : Nat} {c : UInt8} (h : s[i]? = some c) : byteAt s i = c.toNat := by unfold byteAt; rw [h]; rfl
theorem take_snoc {s : List UInt8} {i : Nat} {c : UInt8} (h : s[i]? = some c) : s.take (i + 1) = s.take i ++ [c] := by rw [List.take_add_one, h]; rfl
theorem short_x (s : List UInt8) (n : Nat) (W : PW) : CallsX Tryd.prog 14 ⟨[strV s, .int .i64 n]⟩ [] W fun v _ => v = strV (s.take n) := by
  refine pureX hmix Tryd.func14 r14 (by kernel_rfl) [strV s, .int .i64 n] rfl ?_
  refine ⟨rfl, br_split (fun h => ?_) (fun h => ?_)⟩
  · have h : (n : Int) < s.length := h
    refine ⟨⟨by decide, by omega, by show (n : Int) ≤ (s.length : Int); omega⟩, ret_plain rfl fun _ _ => ?_⟩
    simp [strV]
  · have h : ¬ (n : Int) < s.length := h
    exact ret_plain rfl fun _ _ => by rw [List.take_of_length_le (by omega)]; rfl
theorem within_x (x : Int) (lo hi : Int) (W : PW) : CallsX Tryd.prog 19 ⟨[.int .i64 x, .int .i64 lo, .int .i64 hi]⟩ [] W fun v _ => v = .int .i64 (if x < lo then lo else if hi < x then hi else x) := by
  refine pureX hmix Tryd.func19 r19 (by kernel_rfl) [.int .i64 x, .int .i64 lo, .int .i64 hi] rfl ?_
  refine ⟨rfl, ?_⟩
  apply br_split
  · intro h
    have h : x < lo := h
    exact ret_plain rfl fun _ _ => by rw [if_pos h]; rfl
  intro h
  have h : ¬ x < lo := h
  refine ⟨rfl, ?_⟩
  apply br_split
  · intro h2
    have h2 : hi < x := h2
    exact ret_plain rfl fun _ _ => by rw [if_neg h, if_pos h2]; rfl
  · intro h2
    have h2 : ¬ hi < x := h2
    exact ret_plain rfl fun _ _ => by rw [if_neg h, if_neg h2]; rfl

/-! ## Bytes -/
set_option maxHeartbeats 4000000 in
theorem plain_x (c : UInt8) (W : PW) : CallsX Tryd.prog 67 ⟨[.int .u8 c.toNat]⟩ [] W fun v _ => v = .bool (plainB c) := by
  refine pureX hmix Tryd.func67 r67 (by kernel_rfl) [.int .u8 c.toNat] rfl ?_
  have key : ∀ b : Bool, plainB c = b → (Value.bool b = .bool (plainB c)) := fun b h => by rw [h]
  unfold plainB at key ⊢
  obtain ⟨n, hn⟩ : ∃ n, c.toNat = n := ⟨_, rfl⟩
  rw [hn] at key ⊢
  refine ⟨rfl, ?_⟩
  repeat' first
    | refine ret_plain rfl fun _ _ => ?_
    | refine ⟨rfl, ?_⟩
    | refine br_split (fun h => ?_) (fun h => ?_)
  all_goals (congr 1; rw [Bool.eq_iff_iff]; simp at *; omega)
set_option maxHeartbeats 4000000 in
theorem refplain_x (c : UInt8) (W : PW) : CallsX Tryd.prog 68 ⟨[.int .u8 c.toNat]⟩ [] W fun v _ => v = .bool (plainB c) := by
  refine pureX hmix Tryd.func68 r68 (by kernel_rfl) [.int .u8 c.toNat] rfl ?_
  unfold plainB
  obtain ⟨n, hn⟩ : ∃ n, c.toNat = n := ⟨_, rfl⟩
  rw [hn]
  refine ⟨rfl, ?_⟩
  repeat' first
    | refine ret_plain rfl fun _ _ => ?_
    | refine ⟨rfl, ?_⟩
    | refine br_split (fun h => ?_) (fun h => ?_)
  all_goals (congr 1; rw [Bool.eq_iff_iff]; simp at *; omega)
theorem digS_idx (c : UInt8) : Lib.indexByte hexL c = if 97 ≤ c.toNat ∧ c.toNat ≤ 102 then -1 else digS c :=
  byte_all (p := fun c => Lib.indexByte hexL c = if 97 ≤ c.toNat ∧ c.toNat ≤ 102 then -1 else digS c) (by decide +kernel) c
theorem digS_low (c : UInt8) (h : 97 ≤ c.toNat ∧ c.toNat ≤ 102) : Lib.indexByte hexL ((c.toNat : Int) - 32).toNat.toUInt8 = digS c :=
  byte_all (p := fun c => 97 ≤ c.toNat ∧ c.toNat ≤ 102 → Lib.indexByte hexL ((c.toNat : Int) - 32).toNat.toUInt8 = digS c) (by decide +kernel) c h
theorem digit_x (c : UInt8) (W : PW) : CallsX Tryd.prog 64 ⟨[.int .u8 c.toNat]⟩ [] W fun v _ => v = .int .i64 (digS c) := by
  refine pureX hmix Tryd.func64 r64 (by kernel_rfl) [.int .u8 c.toNat] rfl ?_
  have hidx : ∀ (n : Int) (W' : PW), CallsX Tryd.prog 110 ⟨[strV hexL, .int .u8 n]⟩ [] W' fun v _ => v = .int .i64 (Lib.indexByte hexL n.toNat.toUInt8) := fun n W' =>
    CallsX.of_same (v := .int .i64 (Lib.indexByte hexL n.toNat.toUInt8)) ⟨_, Tryd.func110, by kernel_rfl, by kernel_rfl⟩ (Tryd.strings_IndexByte ⟨⟨hexL⟩⟩ n W'.w)
  have ecast : ∀ n : Nat, ((n : Int)).toNat.toUInt8 = n.toUInt8 := fun n => by simp
  have eb : c.toNat.toUInt8 = c := by simp
  refine ⟨rfl, ?_⟩
  apply br_split
  · intro h1
    have h1 : (97 : Int) ≤ (c.toNat : Int) := h1
    refine ⟨rfl, br_split (fun h2 => ?_) (fun h2 => ?_)⟩
    · have h2 : (c.toNat : Int) ≤ 102 := h2
      refine ⟨rfl, _, (u8_in ((c.toNat : Int) - 32) ⟨by omega, by omega⟩).symm, ?_⟩
      refine call_v rfl (fun W' _ => hidx _ W') (fun W1 v W2 _ _ hv => ?_)
      subst hv
      exact ret_plain rfl fun _ _ => by rw [digS_low c ⟨by omega, by omega⟩]
    · have h2 : ¬ (c.toNat : Int) ≤ 102 := h2
      refine call_v rfl (fun W' _ => hidx _ W') (fun W1 v W2 _ _ hv => ?_)
      rw [ecast, eb, digS_idx, if_neg (by omega)] at hv
      subst hv
      exact ret_plain rfl fun _ _ => rfl
  · intro h1
    have h1 : ¬ (97 : Int) ≤ (c.toNat : Int) := h1
    refine call_v rfl (fun W' _ => hidx _ W') (fun W1 v W2 _ _ hv => ?_)
    rw [ecast, eb, digS_idx, if_neg (by omega)] at hv
    subst hv
    exact ret_plain rfl fun _ _ => rfl
theorem refdigit_x (c : UInt8) (W : PW) : CallsX Tryd.prog 66 ⟨[.int .u8 c.toNat]⟩ [] W fun v _ => v = .int .i64 (digS c) := by
  refine pureX hmix Tryd.func66 r66 (by kernel_rfl) [.int .u8 c.toNat] rfl ?_
  unfold digS
  have hb := c.toNat_lt
  obtain ⟨n, hn⟩ : ∃ n, c.toNat = n := ⟨_, rfl⟩
  rw [hn] at hb ⊢
  have w : ∀ k : Int, k ≤ n → 0 ≤ k → IntKind.i64.wrap ((n : Int) - k) = (n : Int) - k := fun k h1 h2 => i64_in _ ⟨by omega, by omega⟩
  have w0 : IntKind.i64.wrap (n : Int) = n := i64_in _ ⟨by omega, by omega⟩
  refine ⟨rfl, ?_⟩
  repeat' first
    | refine ret_plain rfl fun _ _ => ?_
    | refine ⟨_, w0.symm, rfl, _, (w _ (by omega) (by decide)).symm, ?_⟩
    | refine ⟨rfl, ?_⟩
    | refine br_split (fun h => ?_) (fun h => ?_)
  all_goals (congr 1; simp at *; (repeat' split) <;> omega)
/-! ## A byte written -/
section
variable {B : Base} {σ : List (List PV)} {O : List Own} {W : PW} {K : GV → GS → Prop}
theorem bld_wbyte {i j b : Nat} {p v : Value} {l : List UInt8} {n : Int} (c : UInt8) (hn : n = c.toNat) (hi : O[i]? = some (bldO b p v)) (hj : O[j]? = some (bufO v l)) (hij : i ≠ j) (hu : Used b p) (hlen : l.length + 1 ≤ 100000000)
    (hK : ∀ A d W', W.Le W' → K (.v .nilIface) ⟨σ, (O.set i (bldO b (bldP b) (.slice A (l ++ [c]).length d))).set j (bufO (.slice A (l ++ [c]).length d) (l ++ [c])), W'⟩) :
    CallVC Tryd.prog B 63 [.v (bldP b), .v (.int .u8 n)] [] ⟨σ, O, W⟩ K := by
  subst hn
  have hil := (List.getElem?_eq_some_iff.1 hi).1
  refine call_inl (vs := [bldP b, .int .u8 c.toNat]) hmix Tryd.func63 r63 (by kernel_rfl) rfl rfl fun rc => ?_
  refine bld_check hi hu ?_
  have hi1 : (O.set i (bldO b (bldP b) v))[i]? = some (bldO b (bldP b) v) := List.getElem?_set_self hil
  have hj1 : (O.set i (bldO b (bldP b) v))[j]? = some (bufO v l) := by rw [List.getElem?_set_ne hij]; exact hj
  refine ⟨v, .inr ⟨i, bldO b (bldP b) v, ⟨b, 0, none⟩, 2, 2, 1, hi1, rfl, rfl, rfl⟩, rfl, .inl fun g W1 l1 hr => ?_⟩
  have hm : (100000000 : Nat) ≤ maxLen := by decide
  refine ⟨j, bufO v l, [byteV c], hj1, rfl, rfl, rfl, rfl, fun u hu => by rw [List.mem_singleton.1 hu]; rfl, fun _ => ⟨_, rfl, hr.o⟩, by show l.length + 1 ≤ _; omega, by show (l.length + 1) * 1 ≤ _; omega, rfl, @fun A d _ => ?_⟩
  have hi2 : ((O.set i (bldO b (bldP b) v)).set j ⟨.slice A ((bufO v l).n + 1) d, 5, 1, (bufO v l).n + 1, (bufO v l).cs ++ [byteV c]⟩)[i]? = some (bldO b (bldP b) v) := by rw [List.getElem?_set_ne (Ne.symm hij)]; exact hi1
  refine ⟨i, bldO b (bldP b) v, ⟨b, 0, none⟩, 2, 2, 1, hi2, rfl, rfl, rfl, fun u hu => ?_, Nat.le_refl 2, rfl, ?_⟩
  · rw [List.mem_singleton.1 hu]; rfl
  refine ⟨_, rfl, ?_⟩
  have h := hK A d W1 l1
  rw [List.length_append] at h
  have e : bufO (.slice A (l.length + 1) d) (l ++ [c]) = ⟨.slice A (l.length + 1) d, 5, 1, l.length + 1, l.map byteV ++ [byteV c]⟩ := by
    unfold bufO
    rw [List.length_append, List.map_append]; rfl
  rw [show [c].length = 1 from rfl, e, ← set3 hij (bldO b (bldP b) v)] at h
  exact h
end
end Go.Proofs.YtkhgmmejgikgnaaDoor
