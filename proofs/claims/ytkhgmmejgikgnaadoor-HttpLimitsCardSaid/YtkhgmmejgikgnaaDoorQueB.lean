/- Layer 5 (query), walked: texts escaped and unescaped. -/
import Derived.Test.YtkhgmmejgikgnaaDoorQueA
namespace Go.Proofs.YtkhgmmejgikgnaaDoor
open Go.RowKit

/-! ## Small laws -/
structure BSt where
  i : Nat
  p : Value
  A : Option Addr
  c : Nat
  l : List UInt8
def bO (b : Nat) (t : BSt) : List Own := [bufO (.slice t.A t.l.length t.c) t.l, bldO b t.p (.slice t.A t.l.length t.c)]
def NilIff (A : Option Addr) (c : Nat) (l : List UInt8) : Prop := l = [] → A = none ∧ c = 0
theorem NilIff.snoc (A : Option Addr) (c : Nat) (l : List UInt8) (x : UInt8) : NilIff A c (l ++ [x]) := fun h => by simp at h
theorem bld_info : ∃ i z, Tryd.prog.info? 99 = some i ∧ i.zero = some z ∧ z.cells.toList = [.pointer none, .slice none 0 0] := by
  have h : ((Tryd.prog.info? 99).bind fun i => i.zero.map fun z => z.cells.toList) = some [.pointer none, .slice none 0 0] := by kernel_rfl
  obtain ⟨i, hi, h⟩ := Option.bind_eq_some_iff.1 h
  obtain ⟨z, hz, h⟩ := Option.map_eq_some_iff.1 h
  exact ⟨i, z, hi, hz, h⟩
theorem drop_q {s : List UInt8} {i : Nat} {c : UInt8} (h : s[i]? = some c) : s.drop i = c :: s.drop (i + 1) := by
  have h1 := (List.getElem?_eq_some_iff.1 h).1
  rw [List.drop_eq_getElem_cons h1, (List.getElem?_eq_some_iff.1 h).2]
theorem getD_q {s : List UInt8} {i : Nat} {c : UInt8} (h : s[i]? = some c) : (s[i]?).getD 0 = c := by rw [h]; rfl
theorem at_q {s : List UInt8} {i : Nat} (h : i < s.length) : ∃ c, s[i]? = some c := ⟨_, List.getElem?_eq_getElem h⟩
theorem shr4 (c : UInt8) : ((c.toNat / 16 : Nat) : Int) = shV .shr .u8 c.toNat 4 :=
  byte_all (p := fun c => ((c.toNat / 16 : Nat) : Int) = shV .shr .u8 c.toNat 4) (by decide +kernel) c
theorem and15 (c : UInt8) : Op.intBits .and .u8 c.toNat 15 = pure (.int .u8 ((c.toNat % 16 : Nat) : Int)) := by
  have h : IntKind.u8.wrap (BitVec.ofInt 8 c.toNat &&& BitVec.ofInt 8 15).toNat = ((c.toNat % 16 : Nat) : Int) :=
    byte_all (p := fun c => IntKind.u8.wrap (BitVec.ofInt 8 c.toNat &&& BitVec.ofInt 8 15).toNat = ((c.toNat % 16 : Nat) : Int)) (by decide +kernel) c
  show pure (Value.int .u8 (IntKind.u8.wrap (BitVec.ofInt 8 c.toNat &&& BitVec.ofInt 8 15).toNat)) = _
  rw [h]
theorem shl16 {n : Nat} (h : n < 16) : ((16 * n : Nat) : Int) = shV .shl .i64 n 4 := by
  have : ∀ n : Nat, n < 16 → ((16 * n : Nat) : Int) = shV .shl .i64 n 4 := by decide +kernel
  exact this n h
theorem or16 {a b : Nat} (ha : a < 16) (hb : b < 16) : Op.intBits .or .i64 ((16 * a : Nat) : Int) b = pure (.int .i64 ((16 * a + b : Nat) : Int)) := by
  have h : ∀ a : Nat, a < 16 → ∀ b : Nat, b < 16 → IntKind.i64.wrap (BitVec.ofInt 64 ((16 * a : Nat) : Int) ||| BitVec.ofInt 64 b).toNat = ((16 * a + b : Nat) : Int) := by decide +kernel
  show pure (Value.int .i64 (IntKind.i64.wrap (BitVec.ofInt 64 ((16 * a : Nat) : Int) ||| BitVec.ofInt 64 b).toNat)) = _
  rw [h a ha b hb]
theorem hex_at (n : Nat) : byteAt hexL n = (hexC n).toNat := by unfold byteAt hexC; rw [List.getD_eq_getElem?_getD]
theorem escS_app (a b : List UInt8) : escS (a ++ b) = escS a ++ escS b := by
  induction a with
  | nil => rfl
  | cons x a ih => simp only [List.cons_append, escS, ih, List.append_assoc]
theorem esc_take {s : List UInt8} {i : Nat} {c : UInt8} (h : s[i]? = some c) : escS (s.take (i + 1)) = escS (s.take i) ++ escC c := by
  rw [take_snoc h, escS_app]; simp [escS]
theorem escC_len (c : UInt8) : (escC c).length ≤ 3 := by unfold escC; split <;> simp
theorem escS_len : ∀ s : List UInt8, (escS s).length ≤ 3 * s.length
  | [] => Nat.zero_le _
  | c :: r => by
    have h1 := escC_len c
    have h2 := escS_len r
    simp only [escS, List.length_append, List.length_cons]; omega
theorem esc_len {s : List UInt8} (i : Nat) : (escS (s.take i)).length ≤ 3 * i := by
  have := escS_len (s.take i)
  rw [List.length_take] at this; omega

/-! ## Escaped -/
set_option maxHeartbeats 8000000 in
theorem escape_x (s : List UInt8) (hs : s.length ≤ 1000000) (W : PW) : CallsX Tryd.prog 24 ⟨[strV s]⟩ [] W fun v _ => v = strV (escS s) := by
  refine pureNX hmix Tryd.func24 r24 (by kernel_rfl) [nilO 5 1] rfl [strV s] rfl ?_
  obtain ⟨ti, tz, e1, e2, e3⟩ := bld_info
  refine bld_alloc rfl e1 e2 e3 fun b _ => ?_
  refine ⟨BSt, fun t => [(7, .v (.int .i64 t.i))], fun _ => [], bO b, fun t _ => Used b t.p ∧ t.i ≤ s.length ∧ t.l = escS (s.take t.i) ∧ NilIff t.A t.c t.l, fun t => s.length - t.i, ⟨0, .pointer none, none, 0, []⟩,
    all_sl ⟨rfl, trivial⟩, rfl, ole_refl _, ⟨.inl rfl, Nat.zero_le _, rfl, fun _ => ⟨rfl, rfl⟩⟩, loopOK (fun _ => ⟨⟨trivial, rfl⟩, trivial⟩) (fun _ => rfl) (fun _ => rfl), ?_⟩
  rintro ⟨i, p, A, c, l⟩ W5 l5 ⟨hu, hi, hl, hnil⟩ fr
  dsimp only at hu hi hl hnil
  have hll : l.length ≤ 3 * i := by rw [hl]; exact esc_len i
  refine ⟨rfl, br_split (fun hq => ?_) (fun hq => ?_)⟩
  · have hq : (i : Int) < s.length := hq
    obtain ⟨x, hx⟩ := at_q (s := s) (i := i) (by omega)
    have hb : byteAt s (i : Int).toNat = x.toNat := byteAt_get hx
    have hne := esc_take hx
    have inc := (i64_in ((i : Int) + 1) ⟨by omega, by omega⟩).symm
    refine ⟨⟨by omega, hq⟩, ?_⟩
    refine call_v rfl (fun W' _ => plain_x ((s[i]?).getD 0) W') (fun W1 v W2 _ _ hv => ?_)
    rw [getD_q hx] at hv
    obtain ⟨w, hw, rfl⟩ : ∃ w, plainB x = w ∧ v = .bool w := ⟨_, rfl, hv⟩
    unfold escC at hne
    rw [hw] at hne
    cases w with
    | true =>
      refine ⟨⟨by omega, hq⟩, ?_⟩
      refine bld_wbyte (i := 1) (j := 0) x hb rfl rfl (by decide) hu (by show l.length + 1 ≤ _; omega) fun A1 d1 W3 _ => ?_
      refine ⟨rfl, _, inc, ⟨i + 1, bldP b, A1, d1, l ++ [x]⟩, all_sl ⟨rfl, trivial⟩, rfl, ole_refl _, ⟨.inr rfl, by dsimp only; omega, by dsimp only; rw [hne, hl]; rfl, NilIff.snoc _ _ _ _⟩, by dsimp only; omega⟩
    | false =>
      refine bld_wbyte (i := 1) (j := 0) 37 rfl rfl rfl (by decide) hu (by show l.length + 1 ≤ _; omega) fun A1 d1 W3 _ => ?_
      have l1 : (l ++ [37]).length ≤ 3 * i + 1 := by simp; omega
      have hxl := x.toNat_lt
      refine ⟨⟨by omega, hq⟩, by decide, ((x.toNat / 16 : Nat) : Int), (by rw [hb]; exact shr4 x), ⟨by omega, by show ((x.toNat / 16 : Nat) : Int) < 16; omega⟩, ?_⟩
      refine bld_wbyte (i := 1) (j := 0) (hexC (x.toNat / 16)) (hex_at _) rfl rfl (by decide) (.inr rfl) (by show (l ++ [37]).length + 1 ≤ _; omega) fun A2 d2 W4 _ => ?_
      have l2 : (l ++ [37] ++ [hexC (x.toNat / 16)]).length ≤ 3 * i + 2 := by simp; omega
      refine ⟨⟨by omega, hq⟩, rfl, ((x.toNat % 16 : Nat) : Int), (by rw [hb]; exact and15 x), ⟨by omega, by show ((x.toNat % 16 : Nat) : Int) < 16; omega⟩, ?_⟩
      refine bld_wbyte (i := 1) (j := 0) (hexC (x.toNat % 16)) (hex_at _) rfl rfl (by decide) (.inr rfl) (by show (l ++ [37] ++ [hexC (x.toNat / 16)]).length + 1 ≤ _; omega) fun A3 d3 W6 _ => ?_
      refine ⟨rfl, _, inc, ⟨i + 1, bldP b, A3, d3, l ++ [37] ++ [hexC (x.toNat / 16)] ++ [hexC (x.toNat % 16)]⟩, all_sl ⟨rfl, trivial⟩, rfl, ole_refl _, ⟨.inr rfl, by dsimp only; omega, by dsimp only; rw [hne, hl]; simp, NilIff.snoc _ _ _ _⟩, by dsimp only; omega⟩
  · have hq : ¬ (i : Int) < s.length := hq
    rw [List.take_of_length_le (by omega)] at hl
    by_cases h0 : l = []
    · subst h0
      obtain ⟨rfl, rfl⟩ := hnil rfl
      refine bld_str0 (i := 1) rfl ?_
      exact ret_plain rfl fun _ _ => by rw [← hl]
    · refine bld_str (i := 1) (j := 0) rfl rfl rfl h0 (by show l.length ≤ _; omega) fun g W9 hA hc l9 hF => ?_
      exact ret_plain rfl fun _ _ => by rw [← hl]
theorem cat_q {a b : List UInt8} (n : Nat) (h : a.length + b.length ≤ n) (hn : n ≤ 1000000000) : (a.length : Int) + b.length ≤ 9223372036854775807 := by omega
theorem hex_one {n : Nat} (h : n < 16) : (hexL.drop n).take 1 = [hexC n] := by
  have : ∀ n : Nat, n < 16 → (hexL.drop n).take 1 = [hexC n] := by decide
  exact this n h
set_option maxHeartbeats 8000000 in
theorem refescape_x (s : List UInt8) (hs : s.length ≤ 1000000) (W : PW) : CallsX Tryd.prog 25 ⟨[strV s]⟩ [] W fun v _ => v = strV (escS s) := by
  refine pureX hmix Tryd.func25 r25 (by kernel_rfl) [strV s] rfl ?_
  refine ⟨Nat × List UInt8, fun t => [(4, .v (.int .i64 t.1)), (3, .v (strV t.2))], fun _ => [], fun _ => [], fun t _ => t.1 ≤ s.length ∧ t.2 = escS (s.take t.1), fun t => s.length - t.1, (0, []),
    all_sl ⟨rfl, rfl, trivial⟩, rfl, ole_refl _, ⟨Nat.zero_le _, rfl⟩, loopOK (fun _ => ⟨⟨trivial, rfl⟩, ⟨trivial, rfl⟩, trivial⟩) (fun _ => rfl) (fun _ => rfl), ?_⟩
  rintro ⟨i, l⟩ W5 l5 ⟨hi, hl⟩ fr
  dsimp only at hi hl
  have hll : l.length ≤ 3 * i := by rw [hl]; exact esc_len i
  refine ⟨rfl, br_split (fun hq => ?_) (fun hq => ?_)⟩
  · have hq : (i : Int) < s.length := hq
    obtain ⟨x, hx⟩ := at_q (s := s) (i := i) (by omega)
    have hb : byteAt s (i : Int).toNat = x.toNat := byteAt_get hx
    have hxl := x.toNat_lt
    have hne := esc_take hx
    have inc := (i64_in ((i : Int) + 1) ⟨by omega, by omega⟩).symm
    refine ⟨⟨by omega, hq⟩, ?_⟩
    refine call_v rfl (fun W' _ => refplain_x ((s[i]?).getD 0) W') (fun W1 v W2 _ _ hv => ?_)
    rw [getD_q hx] at hv
    obtain ⟨w, hw, rfl⟩ : ∃ w, plainB x = w ∧ v = .bool w := ⟨_, rfl, hv⟩
    unfold escC at hne
    rw [hw] at hne
    cases w with
    | true =>
      have e : (s.drop (i : Int).toNat).take ((((i + 1 : Nat) : Int)).toNat - (i : Int).toNat) = [x] := by
        show (s.drop i).take (i + 1 - i) = [x]
        rw [drop_q hx, show i + 1 - i = 1 by omega]; rfl
      refine ⟨rfl, ((i + 1 : Nat) : Int), inc, ⟨by omega, by omega, by omega⟩, cat_q 4000000 (by rw [e]; show l.length + 1 ≤ _; omega) (by decide), ?_⟩
      refine ⟨rfl, _, inc, (i + 1, l ++ [x]), all_sl ⟨rfl, ?_, trivial⟩, rfl, ole_refl _, ⟨by dsimp only; omega, by dsimp only; rw [hne, hl]; first | done | rfl⟩, by dsimp only; omega⟩
      show GV.v (strV (l ++ (s.drop (i : Int).toNat).take ((((i + 1 : Nat) : Int)).toNat - (i : Int).toNat))) = _
      rw [e]
    | false =>
      have eq : ((x.toNat / 16 : Nat) : Int) = IntKind.u8.wrap ((byteAt s (i : Int).toNat).tdiv 16) := by
        rw [hb]; exact byte_all (p := fun c => ((c.toNat / 16 : Nat) : Int) = IntKind.u8.wrap ((c.toNat : Int).tdiv 16)) (by decide +kernel) x
      have eq1 : ((x.toNat / 16 + 1 : Nat) : Int) = IntKind.u8.wrap (((x.toNat / 16 : Nat) : Int) + 1) := by rw [u8_in _ ⟨by omega, by omega⟩]; omega
      have er : (byteAt s (i : Int).toNat).tmod 16 = ((x.toNat % 16 : Nat) : Int) := by
        rw [hb]; exact byte_all (p := fun c => (c.toNat : Int).tmod 16 = ((c.toNat % 16 : Nat) : Int)) (by decide +kernel) x
      have er1 : ((x.toNat % 16 + 1 : Nat) : Int) = IntKind.u8.wrap ((byteAt s (i : Int).toNat).tmod 16 + 1) := by rw [er, u8_in _ ⟨by omega, by omega⟩]; omega
      have t1 : (hexL.drop (((x.toNat / 16 : Nat) : Int)).toNat).take ((((x.toNat / 16 + 1 : Nat) : Int)).toNat - (((x.toNat / 16 : Nat) : Int)).toNat) = [hexC (x.toNat / 16)] := by
        show (hexL.drop (x.toNat / 16)).take (x.toNat / 16 + 1 - x.toNat / 16) = _
        rw [show x.toNat / 16 + 1 - x.toNat / 16 = 1 by omega, hex_one (by omega)]
      have t2 : (hexL.drop ((byteAt s (i : Int).toNat).tmod 16).toNat).take ((((x.toNat % 16 + 1 : Nat) : Int)).toNat - ((byteAt s (i : Int).toNat).tmod 16).toNat) = [hexC (x.toNat % 16)] := by
        rw [er]
        show (hexL.drop (x.toNat % 16)).take (x.toNat % 16 + 1 - x.toNat % 16) = _
        rw [show x.toNat % 16 + 1 - x.toNat % 16 = 1 by omega, hex_one (by omega)]
      refine ⟨cat_q 4000000 (by show l.length + 1 ≤ _; omega) (by decide), ⟨by omega, hq⟩, rfl, by decide, ((x.toNat / 16 : Nat) : Int), eq, ⟨by omega, hq⟩, rfl, by decide, ((x.toNat / 16 : Nat) : Int), eq, rfl, ((x.toNat / 16 + 1 : Nat) : Int), eq1, ⟨by omega, by omega, by show ((x.toNat / 16 + 1 : Nat) : Int) ≤ 16; omega⟩, cat_q 4000000 ?_ (by decide), ⟨by omega, hq⟩, rfl, by decide, ⟨by omega, hq⟩, rfl, by decide, rfl, ((x.toNat % 16 + 1 : Nat) : Int), er1, ⟨by rw [er]; omega, by rw [er]; omega, by show ((x.toNat % 16 + 1 : Nat) : Int) ≤ 16; omega⟩, cat_q 4000000 ?_ (by decide), ?_⟩
      · show (l ++ [37]).length + ((hexL.drop (((x.toNat / 16 : Nat) : Int)).toNat).take ((((x.toNat / 16 + 1 : Nat) : Int)).toNat - (((x.toNat / 16 : Nat) : Int)).toNat)).length ≤ _
        rw [t1]; simp; omega
      · show (l ++ [37] ++ (hexL.drop (((x.toNat / 16 : Nat) : Int)).toNat).take ((((x.toNat / 16 + 1 : Nat) : Int)).toNat - (((x.toNat / 16 : Nat) : Int)).toNat)).length + ((hexL.drop ((byteAt s (i : Int).toNat).tmod 16).toNat).take ((((x.toNat % 16 + 1 : Nat) : Int)).toNat - ((byteAt s (i : Int).toNat).tmod 16).toNat)).length ≤ _
        rw [t1, t2]; simp; omega
      refine ⟨rfl, _, inc, (i + 1, l ++ [37, hexC (x.toNat / 16), hexC (x.toNat % 16)]), all_sl ⟨rfl, ?_, trivial⟩, rfl, ole_refl _, ⟨by dsimp only; omega, by dsimp only; rw [hne, hl]; first | done | rfl⟩, by dsimp only; omega⟩
      show GV.v (strV (l ++ [37] ++ (hexL.drop (((x.toNat / 16 : Nat) : Int)).toNat).take ((((x.toNat / 16 + 1 : Nat) : Int)).toNat - (((x.toNat / 16 : Nat) : Int)).toNat) ++ (hexL.drop ((byteAt s (i : Int).toNat).tmod 16).toNat).take ((((x.toNat % 16 + 1 : Nat) : Int)).toNat - ((byteAt s (i : Int).toNat).tmod 16).toNat))) = _
      rw [t1, t2]; simp
  · have hq : ¬ (i : Int) < s.length := hq
    rw [List.take_of_length_le (by omega)] at hl
    exact ret_plain rfl fun _ _ => by rw [← hl]
end Go.Proofs.YtkhgmmejgikgnaaDoor
