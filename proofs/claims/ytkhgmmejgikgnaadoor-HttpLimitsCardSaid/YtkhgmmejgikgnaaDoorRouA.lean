/- The document's base64, walked: a text encoded. -/
import Derived.Test.YtkhgmmejgikgnaaDoorQueE
import Derived.Test.YtkhgmmejgikgnaaDoorCodeRT
import Derived.Test.YtkhgmmejgikgnaaDoorRouL
namespace Go.Proofs.YtkhgmmejgikgnaaDoor
open Go.RowKit

def RB (W : PW) (v : Value) (l : List UInt8) : Prop := SlRead W v l.length (l.map byteV)
theorem RB.mono {W W' : PW} {v : Value} {l : List UInt8} (h : RB W v l) (k : W.Le W') : RB W' v l := SlRead.mono h k
theorem RB.form {W : PW} {v : Value} {l : List UInt8} (h : RB W v l) : ∃ A c, v = .slice A l.length c ∧ l.length ≤ c ∧ c ≤ maxLen := SlRead.form h
theorem RB.at {W W' : PW} {A : Option Addr} {n c : Nat} {l : List UInt8} (h : RB W (.slice A n c) l) (k : W.Le W') {j : Nat} {x : UInt8} (hx : l[j]? = some x) : ∃ a, A = some a ∧ Rd W' (a.add (j * 1)) (byteV x) := by
  have hn : n = l.length := by obtain ⟨_, _, e, _⟩ := RB.form h; simp only [Value.slice.injEq] at e; exact e.2.1
  subst hn
  have hj := (List.getElem?_eq_some_iff.1 hx).1
  obtain ⟨a, ha, _, hg⟩ := SlRead.get h k (j := (j : Int)) ⟨by omega, by omega⟩ 1
  exact ⟨a, ha, hg _ (by show (l.map byteV)[j * 1]? = _; rw [Nat.mul_one, List.getElem?_map, hx]; rfl)⟩
theorem RB.cut {W : PW} {A : Option Addr} {n c : Nat} {l : List UInt8} (h : RB W (.slice A n c) l) {i m : Nat} (h1 : i ≤ m) (h2 : m ≤ l.length) : RB W (.slice (if c = i then A else A.map (·.add (i * 1))) (m - i) (c - i)) ((l.drop i).take (m - i)) := by
  have hn : n = l.length := by obtain ⟨_, _, e, _⟩ := RB.form h; simp only [Value.slice.injEq] at e; exact e.2.1
  subst hn
  have := SlRead.cut h 1 h1 h2
  unfold RB
  rw [List.length_take, List.length_drop, show min (m - i) (l.length - i) = m - i by omega]
  rw [Nat.mul_one, Nat.mul_one, ← List.map_drop, ← List.map_take] at this
  rw [Nat.mul_one]
  exact this

theorem let_one {n : Nat} (h : n < 64) : (letL.drop n).take (n + 1 - n) = [letC n] := by
  have : ∀ n : Nat, n < 64 → (letL.drop n).take (n + 1 - n) = [letC n] := by decide +kernel
  exact this n h
theorem letter_x (n : Nat) (h : n < 64) (W : PW) : CallsX Tryd.prog 116 ⟨[.int .i64 (n : Nat)]⟩ [] W fun v _ => v = strV [letC n] := by
  refine pureX hmix Tryd.func116 r116 (by kernel_rfl) [.int .i64 (n : Nat)] rfl ?_
  refine ⟨rfl, ((n + 1 : Nat) : Int), (by rw [i64_in _ ⟨by omega, by omega⟩]; omega), ⟨by omega, by omega, by show ((n + 1 : Nat) : Int) ≤ 64; omega⟩, ?_⟩
  exact ret_plain rfl fun _ _ => by show strV ((letL.drop n).take (n + 1 - n)) = _; rw [let_one h]

theorem quo_n (x n : Nat) (h : x ≤ 1000000000) : ((x / n : Nat) : Int) = IntKind.i64.wrap ((x : Int).tdiv (n : Int)) := by
  have e : (x : Int).tdiv (n : Int) = ((x / n : Nat) : Int) := rfl
  have h2 := Nat.div_le_self x n
  obtain ⟨y, hy⟩ : ∃ y, x / n = y := ⟨_, rfl⟩
  rw [e, hy, i64_in _ ⟨by omega, by omega⟩]
theorem n_wrap {z : Int} {x : Nat} (h : (x : Int) = z) (hx : x ≤ 1000000000) : (x : Int) = IntKind.i64.wrap z := by rw [← h, i64_in _ ⟨by omega, by omega⟩]
structure ESt where
  A : Option Addr
  c : Nat
  l : List UInt8
  s : List UInt8
set_option maxHeartbeats 4000000 in
theorem refenc4_x (l0 : List UInt8) (hl0 : l0.length ≤ 100000) (v : Value) (W : PW) (h : RB W v l0) : CallsX Tryd.prog 77 ⟨[v]⟩ [] W fun r _ => r = strV (enc4 l0) := by
  obtain ⟨A0, c0, rfl, _, _⟩ := h.form
  refine pureX hmix Tryd.func77 r77 (by kernel_rfl) [.slice A0 l0.length c0] rfl ?_
  refine ⟨ESt, fun t => [(0, .v (.slice t.A t.l.length t.c)), (3, .v (strV t.s))], fun _ => [], fun _ => [], fun t W => RB W (.slice t.A t.l.length t.c) t.l ∧ t.l.length ≤ t.c ∧ enc4 l0 = t.s ++ enc4 t.l, fun t => t.l.length, ⟨A0, c0, l0, []⟩,
    all_sl ⟨rfl, rfl, trivial⟩, rfl, ole_refl _, ⟨h, by assumption, rfl⟩, loopOK (fun _ => ⟨⟨trivial, rfl⟩, ⟨trivial, rfl⟩, trivial⟩) (fun _ => rfl) (fun _ => rfl), ?_⟩
  rintro ⟨A, c, l, s⟩ W5 l5 ⟨hr, hcap, hs⟩ fr
  dsimp only at hr hcap hs
  have hlen : s.length + (enc4 l).length ≤ 200000 := by
    have := (enc4_len l0).1
    rw [hs, List.length_append] at this; omega
  refine ⟨rfl, ?_⟩
  apply br_split
  · intro hq
    have hq : (3 : Int) ≤ (l.length : Nat) := hq
    match l, hq, hr, hcap, hs, hlen with
    | a :: b :: d :: r, hq, hr, hcap, hs, hlen =>
      have ha := a.toNat_lt
      have hb := b.toNat_lt
      have hd := d.toNat_lt
      obtain ⟨p, rfl, g0⟩ := RB.at hr (PW.Le.refl _) (j := 0) (x := a) rfl
      obtain ⟨p1, e1, g1⟩ := RB.at hr (PW.Le.refl _) (j := 1) (x := b) rfl
      obtain rfl : p = p1 := Option.some.inj e1
      obtain ⟨p2, e2, g2⟩ := RB.at hr (PW.Le.refl _) (j := 2) (x := d) rfl
      obtain rfl : p = p2 := Option.some.inj e2
      have hcut := RB.cut hr (i := 3) (m := (a :: b :: d :: r).length) (by simp) (Nat.le_refl _)
      have hs : enc4 l0 = s ++ (letC ((a.toNat * 65536 + b.toNat * 256 + d.toNat) / 262144) :: letC ((a.toNat * 65536 + b.toNat * 256 + d.toNat) / 4096 % 64) :: letC ((a.toNat * 65536 + b.toNat * 256 + d.toNat) / 64 % 64) :: letC ((a.toNat * 65536 + b.toNat * 256 + d.toNat) % 64) :: enc4 r) := hs
      have hlen : s.length + ((enc4 r).length + 4) ≤ 200000 := hlen
      obtain ⟨x, hx⟩ : ∃ x, a.toNat * 65536 + b.toNat * 256 + d.toNat = x := ⟨_, rfl⟩
      rw [hx] at hs
      refine ⟨⟨by decide, by show (0 : Int) < ((r.length + 3 : Nat) : Int); omega⟩, p, rfl, byteV a, g0.o, ((a.toNat : Nat) : Int), n_wrap rfl (by omega), rfl, ((a.toNat * 65536 : Nat) : Int), n_wrap (by omega) (by omega),
        ⟨by decide, by show (1 : Int) < ((r.length + 3 : Nat) : Int); omega⟩, p, rfl, byteV b, g1.o, ((b.toNat : Nat) : Int), n_wrap rfl (by omega), rfl, ((b.toNat * 256 : Nat) : Int), n_wrap (by omega) (by omega), rfl, ((a.toNat * 65536 + b.toNat * 256 : Nat) : Int), n_wrap (by omega) (by omega),
        ⟨by decide, by show (2 : Int) < ((r.length + 3 : Nat) : Int); omega⟩, p, rfl, byteV d, g2.o, ((d.toNat : Nat) : Int), n_wrap rfl (by omega), rfl, (x : Int), n_wrap (by omega) (by omega), ?_⟩
      refine ⟨rfl, by decide, ((x / 262144 : Nat) : Int), quo_n x 262144 (by omega), ?_⟩
      refine call_v rfl (fun W' _ => letter_x (x / 262144) (by omega) W') (fun W10 v W11 k10 k11 hv => ?_)
      subst hv
      refine ⟨cat_q 300000 (by show s.length + 1 ≤ _; omega) (by decide), rfl, by decide, ((x / 4096 : Nat) : Int), quo_n x 4096 (by omega), rfl, by decide, ?_⟩
      refine call_v rfl (fun W' _ => letter_x (x / 4096 % 64) (by omega) W') (fun W12 v W13 k12 k13 hv => ?_)
      subst hv
      refine ⟨cat_q 300000 (by show (s ++ [letC (x / 262144)]).length + 1 ≤ _; simp; omega) (by decide), rfl, by decide, ((x / 64 : Nat) : Int), quo_n x 64 (by omega), rfl, by decide, ?_⟩
      refine call_v rfl (fun W' _ => letter_x (x / 64 % 64) (by omega) W') (fun W14 v W15 k14 k15 hv => ?_)
      subst hv
      refine ⟨cat_q 300000 (by show (s ++ [letC (x / 262144)] ++ [letC (x / 4096 % 64)]).length + 1 ≤ _; simp; omega) (by decide), rfl, by decide, ?_⟩
      refine call_v rfl (fun W' _ => letter_x (x % 64) (by omega) W') (fun W16 v W17 k16 k17 hv => ?_)
      subst hv
      refine ⟨cat_q 300000 (by show (s ++ [letC (x / 262144)] ++ [letC (x / 4096 % 64)] ++ [letC (x / 64 % 64)]).length + 1 ≤ _; simp; omega) (by decide), ?_⟩
      refine ⟨⟨by decide, by show (3 : Int) ≤ ((r.length + 3 : Nat) : Int); omega, by show ((r.length + 3 : Nat) : Int) ≤ (c : Int); simp only [List.length_cons] at hcap; omega⟩, ?_⟩
      have ecut : (((a :: b :: d :: r).drop 3).take ((a :: b :: d :: r).length - 3)) = r := by
        show r.take (r.length + 3 - 3) = r
        rw [Nat.add_sub_cancel, List.take_length]
      rw [ecut] at hcut
      refine ⟨⟨if c = 3 then some p else (some p).map (·.add (3 * 1)), c - 3, r, s ++ [letC (x / 262144)] ++ [letC (x / 4096 % 64)] ++ [letC (x / 64 % 64)] ++ [letC (x % 64)]⟩, all_sl ⟨rfl, rfl, trivial⟩, rfl, ole_refl _, ⟨RB.mono hcut (k10.trans (k11.trans (k12.trans (k13.trans (k14.trans (k15.trans (k16.trans k17))))))), by dsimp only; simp only [List.length_cons] at hcap; omega, by dsimp only; rw [hs]; simp⟩, by dsimp only; simp only [List.length_cons]; omega⟩
  · intro hq
    have hq : ¬ (3 : Int) ≤ (l.length : Nat) := hq
    refine ⟨rfl, ?_⟩
    match l, hq, hr, hcap, hs, hlen with
    | [], _, _, _, hs, _ =>
      refine ⟨rfl, ?_⟩
      exact ret_plain rfl fun _ _ => by rw [hs]; show strV s = strV (s ++ []); rw [List.append_nil]
    | [a], hq, hr, hcap, hs, hlen =>
      have ha := a.toNat_lt
      obtain ⟨p, rfl, g0⟩ := RB.at hr (PW.Le.refl _) (j := 0) (x := a) rfl
      have hs : enc4 l0 = s ++ [letC (a.toNat * 16 / 64), letC (a.toNat * 16 % 64)] := hs
      have hlen : s.length + 2 ≤ 200000 := hlen
      obtain ⟨x, hx⟩ : ∃ x, a.toNat * 16 = x := ⟨_, rfl⟩
      rw [hx] at hs
      refine ⟨⟨by decide, by show (0 : Int) < ((1 : Nat) : Int); decide⟩, p, rfl, byteV a, g0.o, ((a.toNat : Nat) : Int), n_wrap rfl (by omega), rfl, (x : Int), n_wrap (by omega) (by omega), ?_⟩
      refine ⟨rfl, by decide, ((x / 64 : Nat) : Int), quo_n x 64 (by omega), ?_⟩
      refine call_v rfl (fun W' _ => letter_x (x / 64) (by omega) W') (fun W1 v W2 _ _ hv => ?_)
      subst hv
      refine ⟨cat_q 300000 (by show s.length + 1 ≤ _; omega) (by decide), rfl, by decide, ?_⟩
      refine call_v rfl (fun W' _ => letter_x (x % 64) (by omega) W') (fun W1 v W2 _ _ hv => ?_)
      subst hv
      refine ⟨cat_q 300000 (by show (s ++ [letC (x / 64)]).length + 1 ≤ _; simp; omega) (by decide), ?_⟩
      refine ⟨rfl, ?_⟩
      exact ret_plain rfl fun _ _ => by rw [hs]; show strV (s ++ [letC (x / 64)] ++ [letC (x % 64)]) = _; rw [List.append_assoc]; rfl
    | [a, b], hq, hr, hcap, hs, hlen =>
      have ha := a.toNat_lt
      have hb := b.toNat_lt
      obtain ⟨p, rfl, g0⟩ := RB.at hr (PW.Le.refl _) (j := 0) (x := a) rfl
      obtain ⟨p1, e1, g1⟩ := RB.at hr (PW.Le.refl _) (j := 1) (x := b) rfl
      obtain rfl : p = p1 := Option.some.inj e1
      have hs : enc4 l0 = s ++ [letC ((a.toNat * 1024 + b.toNat * 4) / 4096), letC ((a.toNat * 1024 + b.toNat * 4) / 64 % 64), letC ((a.toNat * 1024 + b.toNat * 4) % 64)] := hs
      have hlen : s.length + 3 ≤ 200000 := hlen
      obtain ⟨x, hx⟩ : ∃ x, a.toNat * 1024 + b.toNat * 4 = x := ⟨_, rfl⟩
      rw [hx] at hs
      refine ⟨rfl, ?_⟩
      refine ⟨⟨by decide, by show (0 : Int) < ((2 : Nat) : Int); decide⟩, p, rfl, byteV a, g0.o, ((a.toNat : Nat) : Int), n_wrap rfl (by omega), rfl, ((a.toNat * 1024 : Nat) : Int), n_wrap (by omega) (by omega),
        ⟨by decide, by show (1 : Int) < ((2 : Nat) : Int); decide⟩, p, rfl, byteV b, g1.o, ((b.toNat : Nat) : Int), n_wrap rfl (by omega), rfl, ((b.toNat * 4 : Nat) : Int), n_wrap (by omega) (by omega), rfl, (x : Int), n_wrap (by omega) (by omega), ?_⟩
      refine ⟨rfl, by decide, ((x / 4096 : Nat) : Int), quo_n x 4096 (by omega), ?_⟩
      refine call_v rfl (fun W' _ => letter_x (x / 4096) (by omega) W') (fun W1 v W2 _ _ hv => ?_)
      subst hv
      refine ⟨cat_q 300000 (by show s.length + 1 ≤ _; omega) (by decide), rfl, by decide, ((x / 64 : Nat) : Int), quo_n x 64 (by omega), rfl, by decide, ?_⟩
      refine call_v rfl (fun W' _ => letter_x (x / 64 % 64) (by omega) W') (fun W1 v W2 _ _ hv => ?_)
      subst hv
      refine ⟨cat_q 300000 (by show (s ++ [letC (x / 4096)]).length + 1 ≤ _; simp; omega) (by decide), rfl, by decide, ?_⟩
      refine call_v rfl (fun W' _ => letter_x (x % 64) (by omega) W') (fun W1 v W2 _ _ hv => ?_)
      subst hv
      refine ⟨cat_q 300000 (by show (s ++ [letC (x / 4096)] ++ [letC (x / 64 % 64)]).length + 1 ≤ _; simp; omega) (by decide), ?_⟩
      exact ret_plain rfl fun _ _ => by rw [hs]; show strV (s ++ [letC (x / 4096)] ++ [letC (x / 64 % 64)] ++ [letC (x % 64)]) = _; simp
    | a :: b :: d :: r, hq, _, _, _, _ => exact absurd (by show (3 : Int) ≤ ((r.length + 3 : Nat) : Int); omega) hq
end Go.Proofs.YtkhgmmejgikgnaaDoor
