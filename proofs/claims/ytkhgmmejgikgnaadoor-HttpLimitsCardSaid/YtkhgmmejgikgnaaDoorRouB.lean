/- The document's base64 of a text, walked. -/
import Derived.Test.YtkhgmmejgikgnaaDoorRouA
namespace Go.Proofs.YtkhgmmejgikgnaaDoor
open Go.RowKit

structure PdSt where
  i : Nat
  A : Option Addr
  c : Nat
  l : List UInt8
theorem rb_new {W : PW} {b c : Nat} {l : List UInt8} (h : Rds W ⟨b, 0, none⟩ (l.map byteV)) (h1 : l.length ≤ c) (h2 : c ≤ maxLen) : RB W (.slice (some ⟨b, 0, none⟩) l.length c) l :=
  ⟨_, _, rfl, h1, h2, fun _ => ⟨_, rfl, h⟩⟩
theorem map_step {t : List UInt8} {i : Nat} {x : UInt8} (h : t[i]? = some x) : (t.take (i + 1)).map encM = (t.take i).map encM ++ [encM x] := by rw [take_snoc h, List.map_append]; rfl
set_option maxHeartbeats 4000000 in
theorem refenc_x (s : List UInt8) (hs : s.length ≤ 100000) (W : PW) : CallsX Tryd.prog 41 ⟨[strV s]⟩ [] W fun r _ => r = strV (encS s) := by
  have hmax : (100000000 : Nat) ≤ maxLen := by decide
  refine pureNX hmix Tryd.func41 r41 (by kernel_rfl) [nilO 5 1] rfl [strV s] rfl ?_
  refine ⟨by show s.length ≤ _; omega, fun b c W1 l1 h1 h2 hr _ => ?_⟩
  refine call_v rfl (fun W' lw => refenc4_x s hs _ W' (RB.mono (rb_new hr h1 h2) lw)) (fun W2 v W3 l2 l3 hv => ?_)
  have hlen := (enc4_len s).1
  have hpad := pad_le s
  have hS : encS s = (enc4 s).map encM ++ List.replicate (padN (enc4 s).length) 61 := rfl
  obtain ⟨t, ht, rfl⟩ : ∃ t, enc4 s = t ∧ v = strV t := ⟨_, rfl, hv⟩
  rw [ht] at hlen hpad hS
  refine ⟨PdSt, fun t => [(5, .v (.int .i64 t.i)), (4, .v (.slice t.A t.l.length t.c))], fun _ => [], fun t => [bufO (.slice t.A t.l.length t.c) t.l], fun u _ => u.i ≤ t.length ∧ u.l = (t.take u.i).map encM, fun u => t.length - u.i, ⟨0, none, 0, []⟩,
    all_sl ⟨rfl, rfl, trivial⟩, rfl, ole_refl _, ⟨Nat.zero_le _, rfl⟩, loopOK (fun _ => ⟨⟨trivial, rfl⟩, ⟨trivial, rfl⟩, trivial⟩) (fun _ => rfl) (fun _ => rfl), ?_⟩
  rintro ⟨i, A, c, l⟩ W5 l5 ⟨hi, hl⟩ fr
  dsimp only at hi hl
  have hll : l.length = i := by rw [hl, List.length_map, List.length_take]; omega
  refine ⟨rfl, br_split (fun hq => ?_) (fun hq => ?_)⟩
  · have hq : (i : Int) < t.length := hq
    obtain ⟨x, hx⟩ := at_q (s := t) (i := i) (by omega)
    have hb : byteAt t (i : Int).toNat = x.toNat := byteAt_get hx
    have inc := (i64_in ((i : Int) + 1) ⟨by omega, by omega⟩).symm
    have hst := map_step hx
    rw [← hl] at hst
    refine ⟨⟨by omega, hq⟩, rfl, ?_⟩
    apply br_split
    · intro h45
      have h45 : byteAt t (i : Int).toNat = 45 := h45
      obtain rfl : x = 45 := byte_eq (by show x.toNat = 45; omega)
      have hst : (t.take (i + 1)).map encM = l ++ [43] := hst
      refine ⟨rfl, rfl, .inl fun g W6 l6 hr => ⟨0, _, [.int .u8 43], rfl, rfl, rfl, rfl, rfl, one_byte _, fun _ => ⟨_, rfl, hr.o⟩, by show l.length + 1 ≤ _; omega, by show (l.length + 1) * 1 ≤ _; omega, rfl, @fun A1 f1 _ => ?_⟩⟩
      have el : (l ++ [43]).length = l.length + 1 := by simp
      refine ⟨rfl, _, inc, ⟨i + 1, A1, f1, l ++ [43]⟩, all_sl ⟨rfl, ?_, trivial⟩, rfl, ole_eq ?_, ⟨by dsimp only; omega, hst.symm⟩, by dsimp only; omega⟩
      · dsimp only; rw [el]; rfl
      · dsimp only; unfold bufO; rw [el, ← map_snoc l 43 (n := 43) rfl]; rfl
    intro h45
    have h45 : ¬ byteAt t (i : Int).toNat = 45 := h45
    have n45 : ¬ x = 45 := fun e => h45 (by rw [hb, e]; rfl)
    refine ⟨rfl, ?_⟩
    apply br_split
    · intro h95
      have h95 : byteAt t (i : Int).toNat = 95 := h95
      obtain rfl : x = 95 := byte_eq (by show x.toNat = 95; omega)
      have hst : (t.take (i + 1)).map encM = l ++ [47] := hst
      refine ⟨rfl, .inl fun g W6 l6 hr => ⟨0, _, [.int .u8 47], rfl, rfl, rfl, rfl, rfl, one_byte _, fun _ => ⟨_, rfl, hr.o⟩, by show l.length + 1 ≤ _; omega, by show (l.length + 1) * 1 ≤ _; omega, rfl, @fun A1 f1 _ => ?_⟩⟩
      have el : (l ++ [47]).length = l.length + 1 := by simp
      refine ⟨rfl, _, inc, ⟨i + 1, A1, f1, l ++ [47]⟩, all_sl ⟨rfl, ?_, trivial⟩, rfl, ole_eq ?_, ⟨by dsimp only; omega, hst.symm⟩, by dsimp only; omega⟩
      · dsimp only; rw [el]; rfl
      · dsimp only; unfold bufO; rw [el, ← map_snoc l 47 (n := 47) rfl]; rfl
    intro h95
    have h95 : ¬ byteAt t (i : Int).toNat = 95 := h95
    have n95 : ¬ x = 95 := fun e => h95 (by rw [hb, e]; rfl)
    have hst : (t.take (i + 1)).map encM = l ++ [x] := by rw [hst]; unfold encM; rw [if_neg n45, if_neg n95]
    refine ⟨rfl, .inl fun g W6 l6 hr => ⟨0, _, [.int .u8 (byteAt t (i : Int).toNat)], rfl, rfl, rfl, rfl, rfl, one_byte _, fun _ => ⟨_, rfl, hr.o⟩, by show l.length + 1 ≤ _; omega, by show (l.length + 1) * 1 ≤ _; omega, rfl, @fun A1 f1 _ => ?_⟩⟩
    have el : (l ++ [x]).length = l.length + 1 := by simp
    refine ⟨rfl, _, inc, ⟨i + 1, A1, f1, l ++ [x]⟩, all_sl ⟨rfl, ?_, trivial⟩, rfl, ole_eq ?_, ⟨by dsimp only; omega, hst.symm⟩, by dsimp only; omega⟩
    · dsimp only; rw [el]; rfl
    · dsimp only; unfold bufO; rw [el, ← map_snoc l x hb]; rfl
  have hq : ¬ (i : Int) < t.length := hq
  obtain rfl : i = t.length := by omega
  rw [List.take_length] at hl
  refine ⟨PdSt, fun u => [(4, .v (.slice u.A u.l.length u.c))], fun _ => [], fun u => [bufO (.slice u.A u.l.length u.c) u.l], fun u _ => u.i ≤ padN t.length ∧ u.l = t.map encM ++ List.replicate u.i 61, fun u => padN t.length - u.i, ⟨0, A, c, l⟩,
    all_sl ⟨rfl, trivial⟩, rfl, ole_refl _, ⟨Nat.zero_le _, by rw [hl]; simp⟩, loopOK (fun _ => ⟨⟨trivial, rfl⟩, trivial⟩) (fun _ => rfl) (fun _ => rfl), ?_⟩
  rintro ⟨k, B, d, m⟩ W7 l7 ⟨hk, hm⟩ fr2
  dsimp only at hk hm
  have hml : m.length = t.length + k := by rw [hm, List.length_append, List.length_map, List.length_replicate]
  have hpd : (t.length + padN t.length) % 4 = 0 := by
    have := hpad.2
    rw [hS, List.length_append, List.length_map, List.length_replicate] at this; exact this
  refine ⟨rfl, by decide, rfl, br_nsplit (fun hq => ?_) (fun hq => ?_)⟩
  · have hq : ¬ ((m.length % 4 : Nat) : Int) = 0 := hq
    refine ⟨rfl, .inl fun g W6 l6 hr => ⟨0, _, [.int .u8 61], rfl, rfl, rfl, rfl, rfl, one_byte _, fun _ => ⟨_, rfl, hr.o⟩, by show m.length + 1 ≤ _; omega, by show (m.length + 1) * 1 ≤ _; omega, rfl, @fun A1 f1 _ => ?_⟩⟩
    have el : (m ++ [61]).length = m.length + 1 := by simp
    have hlt : k < padN t.length := by
      rcases Nat.lt_or_ge k (padN t.length) with h | h
      · exact h
      · obtain rfl : k = padN t.length := by omega
        omega
    refine ⟨⟨k + 1, A1, f1, m ++ [61]⟩, all_sl ⟨?_, trivial⟩, rfl, ole_eq ?_, ⟨by dsimp only; omega, by dsimp only; rw [hm, List.replicate_succ', List.append_assoc]⟩, by dsimp only; omega⟩
    · dsimp only; rw [el]; rfl
    · dsimp only; unfold bufO; rw [el, ← map_snoc m 61 (n := 61) rfl]; rfl
  · have hq : ((m.length % 4 : Nat) : Int) = 0 := hq
    obtain rfl : k = padN t.length := by
      have := hpad.1
      omega
    refine ⟨m, rfl, fun _ => .inr ⟨0, _, rfl, rfl, rfl⟩, ?_⟩
    exact ret_plain rfl fun _ _ => by rw [hS, hm]; rfl
end Go.Proofs.YtkhgmmejgikgnaaDoor
