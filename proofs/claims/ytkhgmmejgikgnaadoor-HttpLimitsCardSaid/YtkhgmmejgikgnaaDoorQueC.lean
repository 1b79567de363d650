/- Layer 5 (query), walked: texts unescaped. -/
import Derived.Test.YtkhgmmejgikgnaaDoorQueB
namespace Go.Proofs.YtkhgmmejgikgnaaDoor
open Go.RowKit

def appU (l : List UInt8) (o : Option (List UInt8)) : Option (List UInt8) := match o with | some r => some (l ++ r) | none => none
def unV (o : Option (List UInt8)) : List UInt8 × Int := match o with | some l => (l, 0) | none => ([], 4)
theorem appU_nil (o : Option (List UInt8)) : appU [] o = o := by cases o <;> rfl
theorem un_step (plus : Bool) (r l : List UInt8) {c : UInt8} (h : ¬ c.toNat = 37) : appU l (unS plus (c :: r)) = appU (l ++ [if c.toNat = 43 ∧ plus = true then 32 else c]) (unS plus r) := by
  rw [un_one plus r h]
  cases unS plus r <;> simp [appU]
theorem un_hex (plus : Bool) (r l : List UInt8) (a b : UInt8) (h : ¬ (digS a < 0 ∨ digS b < 0)) : appU l (unS plus (37 :: a :: b :: r)) = appU (l ++ [UInt8.ofNat (16 * digS a + digS b).toNat]) (unS plus r) := by
  simp only [unS, show (37 : UInt8).toNat = 37 from rfl, if_true, if_neg h]
  cases unS plus r <;> simp [appU]
theorem un_bad (plus : Bool) (r : List UInt8) (a b : UInt8) (h : digS a < 0 ∨ digS b < 0) : unS plus (37 :: a :: b :: r) = none := by
  simp only [unS, show (37 : UInt8).toNat = 37 from rfl, if_true, if_pos h]
theorem un_short (plus : Bool) (r : List UInt8) (h : r.length < 2) : unS plus (37 :: r) = none := by
  match r with
  | [] => simp [unS]
  | [a] => simp [unS]
  | a :: b :: r => simp at h; omega
theorem dig_le (c : UInt8) : digS c < 0 ∨ ∃ n : Nat, n < 16 ∧ digS c = n := by
  have h : ∀ c : UInt8, digS c < 0 ∨ (0 ≤ digS c ∧ digS c < 16) := byte_all (p := fun c => digS c < 0 ∨ (0 ≤ digS c ∧ digS c < 16)) (by decide +kernel)
  rcases h c with h | ⟨h1, h2⟩
  · exact .inl h
  · exact .inr ⟨(digS c).toNat, by omega, by omega⟩
theorem ofNat_byte {n : Nat} (h : n < 256) : ((n : Nat) : Int) = (UInt8.ofNat n).toNat := by
  rw [UInt8.toNat_ofNat']; omega
theorem byte_eq {x y : UInt8} (h : x.toNat = y.toNat) : x = y := UInt8.toNat.inj h

set_option maxHeartbeats 8000000 in
theorem unescape_x (s : List UInt8) (plus : Bool) (hs : s.length ≤ 1000000) (W : PW) : CallsX Tryd.prog 22 ⟨[strV s, .bool plus]⟩ [] W fun v _ => v = .tuple ⟨[strV (unV (unS plus s)).1, .int .i64 (unV (unS plus s)).2]⟩ := by
  refine pureNX hmix Tryd.func22 r22 (by kernel_rfl) [nilO 5 1] rfl [strV s, .bool plus] rfl ?_
  obtain ⟨ti, tz, e1, e2, e3⟩ := bld_info
  refine bld_alloc rfl e1 e2 e3 fun b _ => ?_
  refine ⟨BSt, fun t => [(7, .v (.int .i64 t.i))], fun _ => [], bO b, fun t _ => Used b t.p ∧ t.i ≤ s.length ∧ t.l.length ≤ t.i ∧ unS plus s = appU t.l (unS plus (s.drop t.i)) ∧ NilIff t.A t.c t.l, fun t => s.length - t.i, ⟨0, .pointer none, none, 0, []⟩,
    all_sl ⟨rfl, trivial⟩, rfl, ole_refl _, ⟨.inl rfl, Nat.zero_le _, Nat.le_refl _, by rw [appU_nil]; rfl, fun _ => ⟨rfl, rfl⟩⟩, loopOK (fun _ => ⟨⟨trivial, rfl⟩, trivial⟩) (fun _ => rfl) (fun _ => rfl), ?_⟩
  rintro ⟨i, p, A, c, l⟩ W5 l5 ⟨hu, hi, hll, hl, hnil⟩ fr
  dsimp only at hu hi hll hl hnil
  refine ⟨rfl, br_split (fun hq => ?_) (fun hq => ?_)⟩
  · have hq : (i : Int) < s.length := hq
    obtain ⟨x, hx⟩ := at_q (s := s) (i := i) (by omega)
    have hb : byteAt s (i : Int).toNat = x.toNat := byteAt_get hx
    have hxl := x.toNat_lt
    have inc := (i64_in ((i : Int) + 1) ⟨by omega, by omega⟩).symm
    rw [drop_q hx] at hl
    refine ⟨⟨by omega, hq⟩, rfl, ?_⟩
    apply br_split
    · intro h43
      have h43 : byteAt s (i : Int).toNat = 43 := h43
      have hx43 : x.toNat = 43 := by omega
      apply br_bool
      · intro hp
        rw [un_step plus _ l (by omega), if_pos ⟨hx43, hp⟩] at hl
        refine bld_wbyte (i := 1) (j := 0) 32 rfl rfl rfl (by decide) hu (by show l.length + 1 ≤ _; omega) fun A1 d1 W3 _ => ?_
        exact ⟨rfl, _, inc, ⟨i + 1, bldP b, A1, d1, l ++ [32]⟩, all_sl ⟨rfl, trivial⟩, rfl, ole_refl _, ⟨.inr rfl, by dsimp only; omega, by dsimp only; simp; omega, hl, NilIff.snoc _ _ _ _⟩, by dsimp only; omega⟩
      · intro hp
        rw [un_step plus _ l (by omega), if_neg (by rw [hp]; simp)] at hl
        refine ⟨⟨by omega, hq⟩, rfl, br_nsplit (fun h37 => ?_) (fun h37 => ?_)⟩
        · refine ⟨⟨by omega, hq⟩, ?_⟩
          refine bld_wbyte (i := 1) (j := 0) x hb rfl rfl (by decide) hu (by show l.length + 1 ≤ _; omega) fun A1 d1 W3 _ => ?_
          exact ⟨rfl, _, inc, ⟨i + 1, bldP b, A1, d1, l ++ [x]⟩, all_sl ⟨rfl, trivial⟩, rfl, ole_refl _, ⟨.inr rfl, by dsimp only; omega, by dsimp only; simp; omega, hl, NilIff.snoc _ _ _ _⟩, by dsimp only; omega⟩
        · have h37 : byteAt s (i : Int).toNat = 37 := h37
          omega
    · intro h43
      have h43 : ¬ byteAt s (i : Int).toNat = 43 := h43
      refine ⟨⟨by omega, hq⟩, rfl, br_nsplit (fun h37 => ?_) (fun h37 => ?_)⟩
      · have h37 : ¬ byteAt s (i : Int).toNat = 37 := h37
        rw [un_step plus _ l (by omega), if_neg (by omega)] at hl
        refine ⟨⟨by omega, hq⟩, ?_⟩
        refine bld_wbyte (i := 1) (j := 0) x hb rfl rfl (by decide) hu (by show l.length + 1 ≤ _; omega) fun A1 d1 W3 _ => ?_
        exact ⟨rfl, _, inc, ⟨i + 1, bldP b, A1, d1, l ++ [x]⟩, all_sl ⟨rfl, trivial⟩, rfl, ole_refl _, ⟨.inr rfl, by dsimp only; omega, by dsimp only; simp; omega, hl, NilIff.snoc _ _ _ _⟩, by dsimp only; omega⟩
      · have h37 : byteAt s (i : Int).toNat = 37 := h37
        obtain rfl : x = 37 := byte_eq (by show x.toNat = 37; omega)
        refine ⟨rfl, ((s.length - i : Nat) : Int), (by show ((s.length - i : Nat) : Int) = IntKind.i64.wrap ((s.length : Int) - i); rw [i64_in _ ⟨by omega, by omega⟩]; omega), rfl, ?_⟩
        apply br_split
        · intro h3
          have h3 : ((s.length - i : Nat) : Int) < 3 := h3
          have e : unS plus s = none := by rw [hl, un_short plus _ (by rw [List.length_drop]; omega)]; rfl
          exact ret_plain rfl fun _ _ => by rw [e]; rfl
        intro h3
        have h3 : ¬ ((s.length - i : Nat) : Int) < 3 := h3
        obtain ⟨y, hy⟩ := at_q (s := s) (i := i + 1) (by omega)
        obtain ⟨z, hz⟩ := at_q (s := s) (i := i + 2) (by omega)
        have w1 : ((i + 1 : Nat) : Int) = IntKind.i64.wrap ((i : Int) + 1) := by rw [i64_in _ ⟨by omega, by omega⟩]; omega
        have w2 : ((i + 2 : Nat) : Int) = IntKind.i64.wrap ((i : Int) + 2) := by rw [i64_in _ ⟨by omega, by omega⟩]; omega
        rw [drop_q hy, show i + 1 + 1 = i + 2 from rfl, drop_q hz, show i + 2 + 1 = i + 3 from rfl] at hl
        refine ⟨rfl, _, w1, ⟨by omega, by show ((i + 1 : Nat) : Int) < s.length; omega⟩, rfl, _, w2, ⟨by omega, by show ((i + 2 : Nat) : Int) < s.length; omega⟩, ?_⟩
        refine call_v rfl (fun W' _ => digit_x ((s[i + 1]?).getD 0) W') (fun W1 v W2 _ _ hv => ?_)
        rw [getD_q hy] at hv
        refine call_v rfl (fun W' _ => digit_x ((s[i + 2]?).getD 0) W') (fun W3 v2 W4 _ _ hv2 => ?_)
        rw [getD_q hz] at hv2
        obtain ⟨d1, hd1, rfl⟩ : ∃ d, digS y = d ∧ v = .int .i64 d := ⟨_, rfl, hv⟩
        obtain ⟨d2, hd2, rfl⟩ : ∃ d, digS z = d ∧ v2 = .int .i64 d := ⟨_, rfl, hv2⟩
        have bad : (digS y < 0 ∨ digS z < 0) → unS plus s = none := fun h => by rw [hl, un_bad plus _ _ _ h]; rfl
        refine ⟨rfl, ?_⟩
        apply br_split
        · intro hh
          have hh : d1 < 0 := hh
          have e := bad (.inl (by omega))
          exact ret_plain rfl fun _ _ => by rw [e]; rfl
        intro hh
        have hh : ¬ d1 < 0 := hh
        refine ⟨rfl, ?_⟩
        apply br_split
        · intro hh2
          have hh2 : d2 < 0 := hh2
          have e := bad (.inr (by omega))
          exact ret_plain rfl fun _ _ => by rw [e]; rfl
        intro hh2
        have hh2 : ¬ d2 < 0 := hh2
        rw [un_hex plus _ l y z (by omega)] at hl
        obtain ⟨a, ha, ea⟩ : ∃ n : Nat, n < 16 ∧ digS y = n := (dig_le y).resolve_left (by omega)
        obtain ⟨e, he, ee⟩ : ∃ n : Nat, n < 16 ∧ digS z = n := (dig_le z).resolve_left (by omega)
        obtain rfl : d1 = a := by omega
        obtain rfl : d2 = e := by omega
        have en : (16 * digS y + digS z).toNat = 16 * a + e := by omega
        rw [en] at hl
        refine ⟨by decide, ((16 * a : Nat) : Int), shl16 ha, rfl, ((16 * a + e : Nat) : Int), or16 ha he, ((16 * a + e : Nat) : Int), (u8_in _ ⟨by omega, by omega⟩).symm, ?_⟩
        refine bld_wbyte (i := 1) (j := 0) (UInt8.ofNat (16 * a + e)) (ofNat_byte (by omega)) rfl rfl (by decide) hu (by show l.length + 1 ≤ _; omega) fun A1 f1 W6 _ => ?_
        exact ⟨rfl, _, w2, rfl, _, (show ((i + 3 : Nat) : Int) = IntKind.i64.wrap (((i + 2 : Nat) : Int) + 1) by rw [i64_in _ ⟨by omega, by omega⟩]; omega), ⟨i + 3, bldP b, A1, f1, l ++ [UInt8.ofNat (16 * a + e)]⟩, all_sl ⟨rfl, trivial⟩, rfl, ole_refl _, ⟨.inr rfl, by dsimp only; omega, by dsimp only; simp; omega, hl, NilIff.snoc _ _ _ _⟩, by dsimp only; omega⟩
  · have hq : ¬ (i : Int) < s.length := hq
    rw [List.drop_eq_nil_of_le (by omega)] at hl
    have hl : unS plus s = some l := by rw [hl]; show some (l ++ []) = _; rw [List.append_nil]
    by_cases h0 : l = []
    · subst h0
      obtain ⟨rfl, rfl⟩ := hnil rfl
      refine bld_str0 (i := 1) rfl ?_
      exact ret_plain rfl fun _ _ => by rw [hl]; rfl
    · refine bld_str (i := 1) (j := 0) rfl rfl rfl h0 (by show l.length ≤ _; omega) fun g W9 hA hc l9 hF => ?_
      exact ret_plain rfl fun _ _ => by rw [hl]; rfl

structure USt where
  i : Nat
  A : Option Addr
  c : Nat
  l : List UInt8
theorem one_byte (n : Int) : ∀ u ∈ [Value.int .u8 n], u.oneCell' = true := fun u hu => by rw [List.mem_singleton.1 hu]; rfl
theorem map_snoc (l : List UInt8) (x : UInt8) {n : Int} (h : n = x.toNat) : l.map byteV ++ [.int .u8 n] = (l ++ [x]).map byteV := by
  subst h
  rw [List.map_append]; rfl
set_option maxHeartbeats 8000000 in
theorem refunescape_x (s : List UInt8) (plus : Bool) (hs : s.length ≤ 1000000) (W : PW) : CallsX Tryd.prog 23 ⟨[strV s, .bool plus]⟩ [] W fun v _ => v = .tuple ⟨[strV (unV (unS plus s)).1, .int .i64 (unV (unS plus s)).2]⟩ := by
  refine pureNX hmix Tryd.func23 r23 (by kernel_rfl) [nilO 5 1] rfl [strV s, .bool plus] rfl ?_
  have hmax : (100000000 : Nat) ≤ maxLen := by decide
  refine ⟨USt, fun t => [(6, .v (.slice t.A t.l.length t.c)), (7, .v (.int .i64 t.i))], fun _ => [], fun t => [bufO (.slice t.A t.l.length t.c) t.l], fun t _ => t.i ≤ s.length ∧ t.l.length ≤ t.i ∧ unS plus s = appU t.l (unS plus (s.drop t.i)), fun t => s.length - t.i, ⟨0, none, 0, []⟩,
    all_sl ⟨rfl, rfl, trivial⟩, rfl, ole_refl _, ⟨Nat.zero_le _, Nat.le_refl _, by rw [appU_nil]; rfl⟩, loopOK (fun _ => ⟨⟨trivial, rfl⟩, ⟨trivial, rfl⟩, trivial⟩) (fun _ => rfl) (fun _ => rfl), ?_⟩
  rintro ⟨i, A, c, l⟩ W5 l5 ⟨hi, hll, hl⟩ fr
  dsimp only at hi hll hl
  refine ⟨rfl, br_split (fun hq => ?_) (fun hq => ?_)⟩
  · have hq : (i : Int) < s.length := hq
    obtain ⟨x, hx⟩ := at_q (s := s) (i := i) (by omega)
    have hb : byteAt s (i : Int).toNat = x.toNat := byteAt_get hx
    have hxl := x.toNat_lt
    have inc : ((i + 1 : Nat) : Int) = IntKind.i64.wrap ((i : Int) + 1) := by rw [i64_in _ ⟨by omega, by omega⟩]; omega
    rw [drop_q hx] at hl
    refine ⟨⟨by omega, hq⟩, rfl, br_split (fun h37 => ?_) (fun h37 => ?_)⟩
    · have h37 : byteAt s (i : Int).toNat = 37 := h37
      obtain rfl : x = 37 := byte_eq (by show x.toNat = 37; omega)
      have w2 : ((i + 2 : Nat) : Int) = IntKind.i64.wrap ((i : Int) + 2) := by rw [i64_in _ ⟨by omega, by omega⟩]; omega
      refine ⟨rfl, _, w2, rfl, ?_⟩
      apply br_split
      · intro h3
        have h3 : (s.length : Int) ≤ ((i + 2 : Nat) : Int) := h3
        have e : unS plus s = none := by rw [hl, un_short plus _ (by rw [List.length_drop]; omega)]; rfl
        exact ret_plain rfl fun _ _ => by rw [e]; rfl
      intro h3
      have h3 : ¬ (s.length : Int) ≤ ((i + 2 : Nat) : Int) := h3
      obtain ⟨y, hy⟩ := at_q (s := s) (i := i + 1) (by omega)
      obtain ⟨z, hz⟩ := at_q (s := s) (i := i + 2) (by omega)
      rw [drop_q hy, show i + 1 + 1 = i + 2 from rfl, drop_q hz, show i + 2 + 1 = i + 3 from rfl] at hl
      have bad : (digS y < 0 ∨ digS z < 0) → unS plus s = none := fun h => by rw [hl, un_bad plus _ _ _ h]; rfl
      have dg1 : ∀ W', CallsX Tryd.prog 66 ⟨[.int .u8 ((s[i + 1]?).getD 0).toNat]⟩ [] W' fun v _ => v = .int .i64 (digS y) := fun W' => by have := refdigit_x ((s[i + 1]?).getD 0) W'; rw [getD_q hy] at this ⊢; exact this
      have dg2 : ∀ W', CallsX Tryd.prog 66 ⟨[.int .u8 ((s[i + 2]?).getD 0).toNat]⟩ [] W' fun v _ => v = .int .i64 (digS z) := fun W' => by have := refdigit_x ((s[i + 2]?).getD 0) W'; rw [getD_q hz] at this ⊢; exact this
      obtain ⟨d1, hd1⟩ : ∃ d, digS y = d := ⟨_, rfl⟩
      obtain ⟨d2, hd2⟩ : ∃ d, digS z = d := ⟨_, rfl⟩
      rw [hd1] at dg1
      rw [hd2] at dg2
      refine ⟨rfl, _, inc, ⟨by omega, by show ((i + 1 : Nat) : Int) < s.length; omega⟩, ?_⟩
      refine call_v rfl (fun W' _ => dg1 W') (fun W1 v W2 _ _ hv => ?_)
      subst hv
      refine ⟨rfl, ?_⟩
      apply br_split
      · intro hh
        have hh : d1 < 0 := hh
        have e := bad (.inl (by omega))
        exact ret_plain rfl fun _ _ => by rw [e]; rfl
      intro hh
      have hh : ¬ d1 < 0 := hh
      refine ⟨rfl, _, w2, ⟨by omega, by show ((i + 2 : Nat) : Int) < s.length; omega⟩, ?_⟩
      refine call_v rfl (fun W' _ => dg2 W') (fun W1 v W2 _ _ hv => ?_)
      subst hv
      refine ⟨rfl, br_split (fun hh2 => ?_) (fun hh2 => ?_)⟩
      · have hh2 : d2 < 0 := hh2
        have e := bad (.inr (by omega))
        exact ret_plain rfl fun _ _ => by rw [e]; rfl
      have hh2 : ¬ d2 < 0 := hh2
      rw [un_hex plus _ l y z (by omega)] at hl
      obtain ⟨a, ha, ea⟩ : ∃ n : Nat, n < 16 ∧ digS y = n := (dig_le y).resolve_left (by omega)
      obtain ⟨e, he, ee⟩ : ∃ n : Nat, n < 16 ∧ digS z = n := (dig_le z).resolve_left (by omega)
      obtain rfl : d1 = a := by omega
      obtain rfl : d2 = e := by omega
      have en : (16 * digS y + digS z).toNat = 16 * a + e := by omega
      rw [en] at hl
      refine ⟨rfl, _, inc, ⟨by omega, by show ((i + 1 : Nat) : Int) < s.length; omega⟩, rfl, _, w2, ⟨by omega, by show ((i + 2 : Nat) : Int) < s.length; omega⟩, ?_⟩
      refine call_v rfl (fun W' _ => dg1 W') (fun W1 v W2 _ _ hv => ?_)
      subst hv
      refine ⟨rfl, ((16 * a : Nat) : Int), (by rw [i64_in _ ⟨by omega, by omega⟩]; omega), ?_⟩
      refine call_v rfl (fun W' _ => dg2 W') (fun W1 v W2 _ _ hv => ?_)
      subst hv
      refine ⟨rfl, ((16 * a + e : Nat) : Int), (by rw [i64_in _ ⟨by omega, by omega⟩]; omega), ((16 * a + e : Nat) : Int), (u8_in _ ⟨by omega, by omega⟩).symm, rfl, .inl fun g W6 l6 hr => ⟨0, _, [.int .u8 ((16 * a + e : Nat) : Int)], rfl, rfl, rfl, rfl, rfl, one_byte _, fun _ => ⟨_, rfl, hr.o⟩, by show l.length + 1 ≤ _; omega, by show (l.length + 1) * 1 ≤ _; omega, rfl, @fun A1 f1 _ => ?_⟩⟩
      have el : (l ++ [UInt8.ofNat (16 * a + e)]).length = l.length + 1 := by simp
      refine ⟨rfl, _, (show ((i + 3 : Nat) : Int) = IntKind.i64.wrap ((i : Int) + 3) by rw [i64_in _ ⟨by omega, by omega⟩]; omega), ⟨i + 3, A1, f1, l ++ [UInt8.ofNat (16 * a + e)]⟩, all_sl ⟨?_, rfl, trivial⟩, rfl, ole_eq ?_, ⟨by dsimp only; omega, by dsimp only; omega, hl⟩, by dsimp only; omega⟩
      · dsimp only; rw [el]; rfl
      · dsimp only; unfold bufO; rw [el, ← map_snoc l _ (ofNat_byte (show 16 * a + e < 256 by omega))]; rfl
    · have h37 : ¬ byteAt s (i : Int).toNat = 37 := h37
      rw [un_step plus _ l (by omega)] at hl
      refine ⟨⟨by omega, hq⟩, rfl, ?_⟩
      have fin : ∀ (y : UInt8), (if x.toNat = 43 ∧ plus = true then 32 else x) = y → unS plus s = appU (l ++ [y]) (unS plus (s.drop (i + 1))) := fun y h => by rw [← h]; exact hl
      apply br_split
      · intro h43
        have h43 : byteAt s (i : Int).toNat = 43 := h43
        have hx43 : x.toNat = 43 := by omega
        apply br_bool
        · intro hp
          have hl := fin 32 (if_pos ⟨hx43, hp⟩)
          refine ⟨rfl, .inl fun g W6 l6 hr => ⟨0, _, [.int .u8 32], rfl, rfl, rfl, rfl, rfl, one_byte _, fun _ => ⟨_, rfl, hr.o⟩, by show l.length + 1 ≤ _; omega, by show (l.length + 1) * 1 ≤ _; omega, rfl, @fun A1 f1 _ => ?_⟩⟩
          have el : (l ++ [32]).length = l.length + 1 := by simp
          refine ⟨rfl, _, inc, ⟨i + 1, A1, f1, l ++ [32]⟩, all_sl ⟨?_, rfl, trivial⟩, rfl, ole_eq ?_, ⟨by dsimp only; omega, by dsimp only; omega, hl⟩, by dsimp only; omega⟩
          · dsimp only; rw [el]; rfl
          · dsimp only; unfold bufO; rw [el, ← map_snoc l 32 (n := 32) rfl]; rfl
        · intro hp
          have hl := fin x (if_neg (by rw [hp]; simp))
          refine ⟨⟨by omega, hq⟩, rfl, .inl fun g W6 l6 hr => ⟨0, _, [.int .u8 (byteAt s (i : Int).toNat)], rfl, rfl, rfl, rfl, rfl, one_byte _, fun _ => ⟨_, rfl, hr.o⟩, by show l.length + 1 ≤ _; omega, by show (l.length + 1) * 1 ≤ _; omega, rfl, @fun A1 f1 _ => ?_⟩⟩
          have el : (l ++ [x]).length = l.length + 1 := by simp
          refine ⟨rfl, _, inc, ⟨i + 1, A1, f1, l ++ [x]⟩, all_sl ⟨?_, rfl, trivial⟩, rfl, ole_eq ?_, ⟨by dsimp only; omega, by dsimp only; omega, hl⟩, by dsimp only; omega⟩
          · dsimp only; rw [el]; rfl
          · dsimp only; unfold bufO; rw [el, ← map_snoc l x hb]; rfl
      · intro h43
        have h43 : ¬ byteAt s (i : Int).toNat = 43 := h43
        have hl := fin x (if_neg (by omega))
        refine ⟨⟨by omega, hq⟩, rfl, .inl fun g W6 l6 hr => ⟨0, _, [.int .u8 (byteAt s (i : Int).toNat)], rfl, rfl, rfl, rfl, rfl, one_byte _, fun _ => ⟨_, rfl, hr.o⟩, by show l.length + 1 ≤ _; omega, by show (l.length + 1) * 1 ≤ _; omega, rfl, @fun A1 f1 _ => ?_⟩⟩
        have el : (l ++ [x]).length = l.length + 1 := by simp
        refine ⟨rfl, _, inc, ⟨i + 1, A1, f1, l ++ [x]⟩, all_sl ⟨?_, rfl, trivial⟩, rfl, ole_eq ?_, ⟨by dsimp only; omega, by dsimp only; omega, hl⟩, by dsimp only; omega⟩
        · dsimp only; rw [el]; rfl
        · dsimp only; unfold bufO; rw [el, ← map_snoc l x hb]; rfl
  · have hq : ¬ (i : Int) < s.length := hq
    rw [List.drop_eq_nil_of_le (by omega)] at hl
    have hl : unS plus s = some l := by rw [hl]; show some (l ++ []) = _; rw [List.append_nil]
    refine ⟨l, rfl, fun _ => .inr ⟨0, _, rfl, rfl, rfl⟩, ?_⟩
    exact ret_plain rfl fun _ _ => by rw [hl]; rfl
end Go.Proofs.YtkhgmmejgikgnaaDoor
