/- b64.Decode, walked. -/
import Derived.Test.YtkhgmmejgikgnaaDoorRouB
namespace Go.Proofs.YtkhgmmejgikgnaaDoor
open Go.RowKit

theorem w64_in (n : Int) (h : 0 ≤ n ∧ n < 18446744073709551616) : IntKind.u64.wrap n = n := by rw [IntKind.wrap_u64]; omega
theorem u64_or {a x : Nat} (ha : a < 288230376151711744) (hx : x < 64) : Op.intBits .or .u64 ((a * 64 : Nat) : Int) (x : Int) = pure (.int .u64 ((a * 64 + x : Nat) : Int)) := by
  have e : (BitVec.ofInt 64 ((a * 64 : Nat) : Int) ||| BitVec.ofInt 64 (x : Int)).toNat = a * 64 + x := by
    rw [BitVec.toNat_or, BitVec.ofInt_natCast, BitVec.ofInt_natCast, BitVec.toNat_ofNat, BitVec.toNat_ofNat, Nat.mod_eq_of_lt (by omega), Nat.mod_eq_of_lt (by omega)]
    have := Nat.shiftLeft_add_eq_or_of_lt (i := 6) (b := x) hx a
    rw [Nat.shiftLeft_eq] at this
    exact this.symm
  show pure (Value.int .u64 (IntKind.u64.wrap (BitVec.ofInt 64 ((a * 64 : Nat) : Int) ||| BitVec.ofInt 64 (x : Int)).toNat)) = _
  rw [e, w64_in _ ⟨by omega, by omega⟩]
theorem u64_mask {h n : Nat} (hh : h < 18446744073709551616) (hn : n < 6) : Op.intBits .and .u64 (h : Int) ((2 ^ n - 1 : Nat) : Int) = pure (.int .u64 ((h % 2 ^ n : Nat) : Int)) := by
  have hp : 2 ^ n ≤ 2 ^ 6 := Nat.pow_le_pow_right (by decide) (by omega)
  have h0 : 0 < 2 ^ n := Nat.two_pow_pos n
  have e : (BitVec.ofInt 64 (h : Int) &&& BitVec.ofInt 64 ((2 ^ n - 1 : Nat) : Int)).toNat = h % 2 ^ n := by
    rw [BitVec.toNat_and, BitVec.ofInt_natCast, BitVec.ofInt_natCast, BitVec.toNat_ofNat, BitVec.toNat_ofNat, Nat.mod_eq_of_lt (by omega), Nat.mod_eq_of_lt (by omega)]
    exact Nat.and_two_pow_sub_one_eq_mod h n
  have := Nat.mod_lt h h0
  show pure (Value.int .u64 (IntKind.u64.wrap (BitVec.ofInt 64 (h : Int) &&& BitVec.ofInt 64 ((2 ^ n - 1 : Nat) : Int)).toNat)) = _
  rw [e, w64_in _ ⟨by omega, by omega⟩]
theorem u64_shl6 (h : Nat) (_ : h < 18446744073709551616) : ((h % 288230376151711744 * 64 : Nat) : Int) = shV .shl .u64 (h : Int) 6 := by
  show ((h % 288230376151711744 * 64 : Nat) : Int) = IntKind.u64.wrap ((h : Int) * 64)
  rw [IntKind.wrap_u64]; omega
theorem u64_one {n : Nat} (h : n < 6) : ((2 ^ n : Nat) : Int) = shV .shl .u64 1 (n : Int) := by
  have : ∀ n : Nat, n < 6 → ((2 ^ n : Nat) : Int) = shV .shl .u64 1 (n : Int) := by decide +kernel
  exact this n h
theorem u64_less {n : Nat} (h : n < 6) : ((2 ^ n - 1 : Nat) : Int) = IntKind.u64.wrap (((2 ^ n : Nat) : Int) - 1) := by
  have : ∀ n : Nat, n < 6 → ((2 ^ n - 1 : Nat) : Int) = IntKind.u64.wrap (((2 ^ n : Nat) : Int) - 1) := by decide +kernel
  exact this n h
theorem u64_shr (h n : Nat) (hn : n < 8) : ((h / 2 ^ n : Nat) : Int) = shV .shr .u64 (h : Int) (n : Int) := by
  show ((h / 2 ^ n : Nat) : Int) = (h : Int).fdiv (2 ^ (min ((n : Int)).toNat 64))
  rw [show min ((n : Int)).toNat 64 = n by rw [Int.toNat_natCast]; omega]
  rw [Int.fdiv_eq_ediv_of_nonneg _ (Int.le_of_lt (Int.pow_pos (by decide)))]
  simp
theorem u8_low (x : Nat) : ((x % 256 : Nat) : Int) = IntKind.u8.wrap (x : Int) := by rw [IntKind.wrap_u8]; omega
theorem idx_lt (c : UInt8) : Lib.indexByte letL c < 64 :=
  byte_all (p := fun c => Lib.indexByte letL c < 64) (by decide +kernel) c

structure DSt where
  i : Nat
  h : Nat
  n : Nat
  A : Option Addr
  c : Nat
  l : List UInt8
def BDec (W : PW) (v : Value) (r : Option (List UInt8)) : Prop :=
  match r with
  | some l => ∃ u, v = .tuple ⟨[u, .int .i64 0]⟩ ∧ RB W u l
  | none => v = .tuple ⟨[.slice none 0 0, .int .i64 4]⟩
theorem decL_miss {h n : Nat} {out r : List UInt8} {c : UInt8} (hx : Lib.indexByte letL c < 0) : decL h n out (c :: r) = none := by
  show (if Lib.indexByte letL c < 0 then none else _) = _
  rw [if_pos hx]
theorem decL_more {h n : Nat} {out r : List UInt8} {c : UInt8} {x : Nat} (hx : Lib.indexByte letL c = x) (hn : 8 ≤ n + 6) : decL h n out (c :: r) = decL ((h * 64 + x) % two64) (n + 6 - 8) (out ++ [UInt8.ofNat ((h * 64 + x) % two64 / 2 ^ (n + 6 - 8) % 256)]) r := by
  show (if Lib.indexByte letL c < 0 then none else _) = _
  rw [hx, if_neg (by omega), if_pos hn]; rfl
theorem decL_less {h n : Nat} {out r : List UInt8} {c : UInt8} {x : Nat} (hx : Lib.indexByte letL c = x) (hn : ¬ 8 ≤ n + 6) : decL h n out (c :: r) = decL ((h * 64 + x) % two64) (n + 6) out r := by
  show (if Lib.indexByte letL c < 0 then none else _) = _
  rw [hx, if_neg (by omega), if_neg hn]; rfl
set_option maxHeartbeats 8000000 in
theorem bdec_x (s : List UInt8) (hs : s.length ≤ 1000000) (W : PW) : CallsX Tryd.prog 119 ⟨[strV s]⟩ [] W fun v W' => BDec W' v (decL 0 0 [] s) := by
  have hmax : (100000000 : Nat) ≤ maxLen := by decide
  refine pureNX hmix Tryd.func119 r119 (by kernel_rfl) [nilO 5 1] rfl [strV s] rfl ?_
  have hidx : ∀ (n : Int) (W' : PW), CallsX Tryd.prog 110 ⟨[strV letL, .int .u8 n]⟩ [] W' fun v _ => v = .int .i64 (Lib.indexByte letL n.toNat.toUInt8) := fun n W' =>
    CallsX.of_same (v := .int .i64 (Lib.indexByte letL n.toNat.toUInt8)) ⟨_, Tryd.func110, by kernel_rfl, by kernel_rfl⟩ (Tryd.strings_IndexByte ⟨⟨letL⟩⟩ n W'.w)
  have ecast : ∀ n : Nat, ((n : Int)).toNat.toUInt8 = n.toUInt8 := fun n => by simp
  refine ⟨DSt, fun t => [(5, .v (.int .u64 t.h)), (6, .v (.int .i64 t.n)), (4, .v (.slice t.A t.l.length t.c)), (11, .v (.int .i64 t.i))], fun _ => [], fun t => [bufO (.slice t.A t.l.length t.c) t.l],
    fun t _ => t.i ≤ s.length ∧ t.l.length ≤ t.i ∧ t.h < two64 ∧ t.n < 8 ∧ decL 0 0 [] s = decL t.h t.n t.l (s.drop t.i), fun t => s.length - t.i, ⟨0, 0, 0, none, 0, []⟩,
    all_sl ⟨rfl, rfl, rfl, rfl, trivial⟩, rfl, ole_refl _, ⟨Nat.zero_le _, Nat.le_refl _, by decide, by decide, rfl⟩, loopOK (fun _ => ⟨⟨trivial, rfl⟩, ⟨trivial, rfl⟩, ⟨trivial, rfl⟩, ⟨trivial, rfl⟩, trivial⟩) (fun _ => rfl) (fun _ => rfl), ?_⟩
  rintro ⟨i, h, n, A, c, l⟩ W5 l5 ⟨hi, hll, hh, hn, hl⟩ fr
  dsimp only at hi hll hh hn hl
  unfold two64 at hh
  refine ⟨rfl, br_split (fun hq => ?_) (fun hq => ?_)⟩
  · have hq : (i : Int) < s.length := hq
    obtain ⟨x, hx⟩ := at_q (s := s) (i := i) (by omega)
    have hb : byteAt s (i : Int).toNat = x.toNat := byteAt_get hx
    have inc := (i64_in ((i : Int) + 1) ⟨by omega, by omega⟩).symm
    rw [drop_q hx] at hl
    refine ⟨⟨by omega, hq⟩, ?_⟩
    refine call_v rfl (fun W' _ => hidx _ W') (fun W1 v W2 _ _ hv => ?_)
    rw [hb, ecast, show x.toNat.toUInt8 = x by simp] at hv
    have hlt := idx_lt x
    obtain ⟨z, hz, rfl⟩ : ∃ z, Lib.indexByte letL x = z ∧ v = .int .i64 z := ⟨_, rfl, hv⟩
    rw [hz] at hlt
    refine ⟨rfl, ?_⟩
    apply br_split
    · intro hneg
      have hneg : z < 0 := hneg
      rw [decL_miss (by omega)] at hl
      exact ret_plain rfl fun _ _ => by rw [hl]; rfl
    intro hneg
    have hneg : ¬ z < 0 := hneg
    obtain ⟨y, rfl⟩ : ∃ y : Nat, z = y := ⟨z.toNat, by omega⟩
    have hmod : h % 288230376151711744 * 64 + y = (h * 64 + y) % two64 := by unfold two64; omega
    obtain ⟨g, hg⟩ : ∃ g, h % 288230376151711744 * 64 + y = g := ⟨_, rfl⟩
    have hgl : g < 18446744073709551616 := by omega
    have hor : Op.intBits .or .u64 ((h % 288230376151711744 * 64 : Nat) : Int) (y : Int) = pure (.int .u64 (g : Int)) := by rw [← hg]; exact u64_or (by omega) (by omega)
    refine ⟨by decide, _, u64_shl6 h hh, (y : Int), (w64_in _ ⟨by omega, by omega⟩).symm, rfl, (g : Int), hor, rfl, ((n + 6 : Nat) : Int), (by show ((n + 6 : Nat) : Int) = IntKind.i64.wrap ((n : Int) + 6); rw [i64_in _ ⟨by omega, by omega⟩]; omega), rfl, ?_⟩
    apply br_split
    · intro h8
      have h8 : (8 : Int) ≤ ((n + 6 : Nat) : Int) := h8
      rw [decL_more hz (by omega), ← hmod, hg] at hl
      obtain ⟨m, hm⟩ : ∃ m, n + 6 - 8 = m := ⟨_, rfl⟩
      rw [hm] at hl
      obtain ⟨b, hb2⟩ : ∃ b, g / 2 ^ m % 256 = b := ⟨_, rfl⟩
      have hbl : b < 256 := by omega
      rw [hb2] at hl
      refine ⟨rfl, (m : Int), (by show (m : Int) = IntKind.i64.wrap (((n + 6 : Nat) : Int) - 8); rw [i64_in _ ⟨by omega, by omega⟩]; omega), by omega, _, u64_shr g m (by omega), (b : Int), (by rw [← hb2]; exact u8_low _), rfl, .inl fun gg W6 l6 hr => ⟨0, _, [.int .u8 (b : Int)], rfl, rfl, rfl, rfl, rfl, one_byte _, fun _ => ⟨_, rfl, hr.o⟩, by show l.length + 1 ≤ _; omega, by show (l.length + 1) * 1 ≤ _; omega, rfl, @fun A1 f1 _ => ?_⟩⟩
      have el : (l ++ [UInt8.ofNat b]).length = l.length + 1 := by simp
      refine ⟨rfl, _, inc, ⟨i + 1, g, m, A1, f1, l ++ [UInt8.ofNat b]⟩, all_sl ⟨rfl, rfl, ?_, rfl, trivial⟩, rfl, ole_eq ?_, ⟨by dsimp only; omega, by dsimp only; omega, hgl, by dsimp only; omega, hl⟩, by dsimp only; omega⟩
      · dsimp only; rw [el]; rfl
      · dsimp only; unfold bufO; rw [el, ← map_snoc l _ (ofNat_byte hbl)]; rfl
    · intro h8
      have h8 : ¬ (8 : Int) ≤ ((n + 6 : Nat) : Int) := h8
      rw [decL_less hz (by omega), ← hmod, hg] at hl
      exact ⟨rfl, _, inc, ⟨i + 1, g, n + 6, A, c, l⟩, all_sl ⟨rfl, rfl, rfl, rfl, trivial⟩, rfl, ole_refl _, ⟨by dsimp only; omega, by dsimp only; omega, hgl, by dsimp only; omega, hl⟩, by dsimp only; omega⟩
  · have hq : ¬ (i : Int) < s.length := hq
    rw [List.drop_eq_nil_of_le (by omega)] at hl
    have hl : decL 0 0 [] s = if 6 ≤ n ∨ ¬ h % 2 ^ n = 0 then none else some l := hl
    refine ⟨rfl, ?_⟩
    apply br_split
    · intro h6
      have h6 : (6 : Int) ≤ (n : Int) := h6
      rw [if_pos (.inl (by omega))] at hl
      exact ret_plain rfl fun _ _ => by rw [hl]; rfl
    intro h6
    have h6 : ¬ (6 : Int) ≤ (n : Int) := h6
    obtain ⟨r, hr⟩ : ∃ r, h % 2 ^ n = r := ⟨_, rfl⟩
    have hand := u64_mask (h := h) (n := n) hh (by omega)
    rw [hr] at hand hl
    refine ⟨by omega, _, u64_one (by omega), rfl, _, u64_less (by omega), rfl, (r : Int), hand, rfl, br_nsplit (fun h0 => ?_) (fun h0 => ?_)⟩
    · have h0 : ¬ (r : Int) = 0 := h0
      rw [if_pos (.inr (by omega))] at hl
      exact ret_plain rfl fun _ _ => by rw [hl]; rfl
    · have h0 : (r : Int) = 0 := h0
      rw [if_neg (by omega)] at hl
      refine RetVC.freeze (fun _ hb => hb) (i := 0) rfl fun Wm lm hs0 => ?_
      refine ret_plain rfl fun W' lw => ?_
      rw [hl]
      exact ⟨_, rfl, SlRead.mono hs0 lw⟩
end Go.Proofs.YtkhgmmejgikgnaaDoor
