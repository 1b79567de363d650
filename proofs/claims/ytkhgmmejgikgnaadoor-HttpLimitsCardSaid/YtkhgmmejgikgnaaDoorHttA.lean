/- Requests, walked: kinds of bytes; texts of a kind; texts cut, trimmed; numbers. -/
import Derived.Test.YtkhgmmejgikgnaaDoorHttL
import Derived.Test.YtkhgmmejgikgnaaDoorCodeHT
import Derived.Test.YtkhgmmejgikgnaaDoorShelfH
import Derived.Shelf.Strings.SlTrimAscii
namespace Go.Proofs.YtkhgmmejgikgnaaDoor
open Go.RowKit

theorem great_x (c : UInt8) (W : PW) : CallsX Tryd.prog 100 ⟨[.int .u8 c.toNat]⟩ [] W fun v _ => v = .bool (greatB c) := by
  refine pureX hmix Tryd.func100 r100 (by kernel_rfl) [.int .u8 c.toNat] rfl ?_
  unfold greatB
  refine ⟨rfl, br_split (fun h1 => ?_) (fun h1 => ?_)⟩
  · have h1 : (65 : Int) ≤ (c.toNat : Int) := h1
    refine ⟨rfl, ret_plain rfl fun _ _ => ?_⟩
    rw [decide_eq_true (show 65 ≤ c.toNat by omega), Bool.true_and]
    exact congrArg Value.bool (decide_eq_decide.2 ⟨fun h => by omega, fun h => by omega⟩)
  · have h1 : ¬ (65 : Int) ≤ (c.toNat : Int) := h1
    exact ret_plain rfl fun _ _ => by rw [decide_eq_false (show ¬ 65 ≤ c.toNat by omega)]; rfl
theorem digitk_x (c : UInt8) (W : PW) : CallsX Tryd.prog 108 ⟨[.int .u8 c.toNat]⟩ [] W fun v _ => v = .bool (digitB c) := by
  refine pureX hmix Tryd.func108 r108 (by kernel_rfl) [.int .u8 c.toNat] rfl ?_
  unfold digitB
  refine ⟨rfl, br_split (fun h1 => ?_) (fun h1 => ?_)⟩
  · have h1 : (48 : Int) ≤ (c.toNat : Int) := h1
    refine ⟨rfl, ret_plain rfl fun _ _ => ?_⟩
    rw [decide_eq_true (show 48 ≤ c.toNat by omega), Bool.true_and]
    exact congrArg Value.bool (decide_eq_decide.2 ⟨fun h => by omega, fun h => by omega⟩)
  · have h1 : ¬ (48 : Int) ≤ (c.toNat : Int) := h1
    exact ret_plain rfl fun _ _ => by rw [decide_eq_false (show ¬ 48 ≤ c.toNat by omega)]; rfl
theorem seen_x (c : UInt8) (W : PW) : CallsX Tryd.prog 101 ⟨[.int .u8 c.toNat]⟩ [] W fun v _ => v = .bool (seenB c) := by
  refine pureX hmix Tryd.func101 r101 (by kernel_rfl) [.int .u8 c.toNat] rfl ?_
  unfold seenB
  refine ⟨rfl, br_split (fun h1 => ?_) (fun h1 => ?_)⟩
  · have h1 : (33 : Int) ≤ (c.toNat : Int) := h1
    refine ⟨rfl, ret_plain rfl fun _ _ => ?_⟩
    rw [decide_eq_true (show 33 ≤ c.toNat by omega), Bool.true_and]
    exact congrArg Value.bool (decide_eq_decide.2 ⟨fun h => by omega, fun h => by omega⟩)
  · have h1 : ¬ (33 : Int) ≤ (c.toNat : Int) := h1
    exact ret_plain rfl fun _ _ => by rw [decide_eq_false (show ¬ 33 ≤ c.toNat by omega)]; rfl
theorem valued_x (c : UInt8) (W : PW) : CallsX Tryd.prog 103 ⟨[.int .u8 c.toNat]⟩ [] W fun v _ => v = .bool (valuedB c) := by
  refine pureX hmix Tryd.func103 r103 (by kernel_rfl) [.int .u8 c.toNat] rfl ?_
  unfold valuedB
  have last : (fun v (_ : PW) => v = Value.bool (decide (c.toNat = 9))) (.bool (decide ((c.toNat : Int) = 9))) W := congrArg Value.bool (decide_eq_decide.2 ⟨fun h => by omega, fun h => by omega⟩)
  refine ⟨rfl, br_split (fun h1 => ?_) (fun h1 => ?_)⟩
  · have h1 : (32 : Int) ≤ (c.toNat : Int) := h1
    refine ⟨rfl, br_split (fun h2 => ?_) (fun h2 => ?_)⟩
    · have h2 : (c.toNat : Int) ≤ 126 := h2
      exact ret_plain rfl fun _ _ => by rw [decide_eq_true (show 32 ≤ c.toNat by omega), decide_eq_true (show c.toNat ≤ 126 by omega)]; rfl
    · have h2 : ¬ (c.toNat : Int) ≤ 126 := h2
      refine ⟨rfl, ret_plain rfl fun _ _ => ?_⟩
      rw [decide_eq_false (show ¬ c.toNat ≤ 126 by omega), Bool.and_false, Bool.false_or]; exact last
  · have h1 : ¬ (32 : Int) ≤ (c.toNat : Int) := h1
    refine ⟨rfl, ret_plain rfl fun _ _ => ?_⟩
    rw [decide_eq_false (show ¬ 32 ≤ c.toNat by omega), Bool.false_and, Bool.false_or]; exact last
theorem named_x (c : UInt8) (W : PW) : CallsX Tryd.prog 102 ⟨[.int .u8 c.toNat]⟩ [] W fun v _ => v = .bool (namedB c) := by
  refine pureX hmix Tryd.func102 r102 (by kernel_rfl) [.int .u8 c.toNat] rfl ?_
  refine call_v rfl (fun W' _ => great_x c W') (fun W1 v W2 l1 l2 hv => ?_)
  unfold namedB
  obtain ⟨g, hg, rfl⟩ : ∃ g, greatB c = g ∧ v = .bool g := ⟨_, rfl, hv⟩
  rw [hg]
  have dig : ∀ W', CallsX Tryd.prog 108 ⟨[.int .u8 c.toNat]⟩ [] W' fun v _ => v = .bool (digitB c) := fun W' => digitk_x c W'
  obtain ⟨d, hd⟩ : ∃ d, digitB c = d := ⟨_, rfl⟩
  rw [hd] at dig ⊢
  have last : Value.bool (decide ((c.toNat : Int) = 45)) = Value.bool (decide (c.toNat = 45)) := congrArg Value.bool (decide_eq_decide.2 ⟨fun h => by omega, fun h => by omega⟩)
  apply br_bool
  · intro h
    subst h
    exact ret_plain rfl fun _ _ => rfl
  intro h
  subst h
  refine ⟨rfl, br_split (fun h1 => ?_) (fun h1 => ?_)⟩
  · have h1 : (97 : Int) ≤ (c.toNat : Int) := h1
    refine ⟨rfl, br_split (fun h2 => ?_) (fun h2 => ?_)⟩
    · have h2 : (c.toNat : Int) ≤ 122 := h2
      exact ret_plain rfl fun _ _ => by rw [decide_eq_true (show 97 ≤ c.toNat by omega), decide_eq_true (show c.toNat ≤ 122 by omega)]; rfl
    · have h2 : ¬ (c.toNat : Int) ≤ 122 := h2
      refine call_v rfl (fun W' _ => dig W') (fun W3 v W4 l3 l4 hv => ?_)
      subst hv
      apply br_bool
      · intro h; subst h
        exact ret_plain rfl fun _ _ => by rw [Bool.or_true]; rfl
      · intro h; subst h
        refine ⟨rfl, ret_plain rfl fun _ _ => ?_⟩
        rw [decide_eq_false (show ¬ c.toNat ≤ 122 by omega), Bool.and_false]
        exact last
  · have h1 : ¬ (97 : Int) ≤ (c.toNat : Int) := h1
    refine call_v rfl (fun W' _ => dig W') (fun W3 v W4 l3 l4 hv => ?_)
    subst hv
    apply br_bool
    · intro h; subst h
      exact ret_plain rfl fun _ _ => by rw [Bool.or_true]; rfl
    · intro h; subst h
      refine ⟨rfl, ret_plain rfl fun _ _ => ?_⟩
      rw [decide_eq_false (show ¬ 97 ≤ c.toNat by omega), Bool.false_and]
      exact last
theorem br_nsplit' {b : Bool} {X Y : Prop} (h1 : b = false → X) (h2 : b = true → Y) : Branch X Y (!b) := by
  cases b
  · exact h1 rfl
  · exact h2 rfl
def fnV (f : FuncId) : Value := .func (.func f) #[] #[]
set_option maxHeartbeats 1000000 in
theorem all_x (s : List UInt8) (most : Nat) (f : FuncId) (p : UInt8 → Bool) (hp : ∀ c W', CallsX Tryd.prog f ⟨[.int .u8 (c : UInt8).toNat]⟩ [] W' fun v _ => v = .bool (p c)) (hs : s.length ≤ 1000000) (W : PW) :
    CallsX Tryd.prog 99 ⟨[strV s, .int .i64 most, fnV f]⟩ [] W fun v _ => v = .bool (allB most p s) := by
  refine pureX hmix Tryd.func99 r99 (by kernel_rfl) [strV s, .int .i64 most, fnV f] rfl ?_
  refine ⟨Nat, fun i => [(10, .v (.int .i64 i))], fun _ => [], fun _ => [], fun i _ => i ≤ s.length ∧ (s.take i).all p = true, fun i => s.length - i, 0,
    all_sl ⟨rfl, trivial⟩, rfl, ole_refl _, ⟨Nat.zero_le _, rfl⟩, loopOK (fun _ => ⟨⟨trivial, rfl⟩, trivial⟩) (fun _ => rfl) (fun _ => rfl), ?_⟩
  rintro i W5 l5 ⟨hi, hI⟩ fr
  refine ⟨rfl, br_split (fun hq => ?_) (fun hq => ?_)⟩
  · have hq : (i : Int) < s.length := hq
    obtain ⟨x, hx⟩ := at_q (s := s) (i := i) (by omega)
    have hpx : ∀ W', CallsX Tryd.prog f ⟨[.int .u8 (byteAt s (i : Int).toNat)]⟩ [] W' fun v _ => v = .bool (p x) := fun W' => by
      have := hp x W'
      rw [show byteAt s (i : Int).toNat = x.toNat from byteAt_get hx]; exact this
    refine ⟨⟨by omega, hq⟩, ?_⟩
    refine call_v rfl (fun W' _ => hpx W') (fun W1 v W2 l1 l2 hv => ?_)
    have hst : (s.take (i + 1)).all p = p x := by rw [take_snoc hx, List.all_append, hI]; simp
    obtain ⟨b, hb, rfl⟩ : ∃ b, p x = b ∧ v = .bool b := ⟨_, rfl, hv⟩
    rw [hb] at hst
    refine br_nsplit' ?_ ?_
    · intro h
      subst h
      refine ret_plain rfl fun _ _ => ?_
      have : s.all p = false := by
        rw [Bool.eq_false_iff]
        intro ha
        rw [List.all_eq_true] at ha
        have := ha x (List.mem_of_getElem? hx)
        rw [hb] at this; cases this
      unfold allB
      rw [this]; rfl
    · intro h
      subst h
      exact ⟨rfl, _, (i64_in ((i : Int) + 1) ⟨by omega, by omega⟩).symm, i + 1, all_sl ⟨rfl, trivial⟩, rfl, ole_refl _, ⟨by omega, hst⟩, by show s.length - (i + 1) < s.length - i; omega⟩
  · have hq : ¬ (i : Int) < s.length := hq
    rw [List.take_of_length_le (by omega)] at hI
    unfold allB
    rw [hI, Bool.true_and]
    refine ⟨rfl, br_split (fun h1 => ?_) (fun h1 => ?_)⟩
    · have h1 : (1 : Int) ≤ (s.length : Int) := h1
      refine ⟨rfl, ret_plain rfl fun _ _ => ?_⟩
      rw [decide_eq_true (show 1 ≤ s.length by omega), Bool.true_and]
      show Value.bool (decide ((s.length : Int) ≤ (most : Int))) = Value.bool (decide (s.length ≤ most))
      exact congrArg Value.bool (decide_eq_decide.2 ⟨fun h => by omega, fun h => by omega⟩)
    · have h1 : ¬ (1 : Int) ≤ (s.length : Int) := h1
      exact ret_plain rfl fun _ _ => by rw [decide_eq_false (show ¬ 1 ≤ s.length by omega)]; rfl
end Go.Proofs.YtkhgmmejgikgnaaDoor
