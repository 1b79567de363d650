/- Layer 5 (query), walked: pairs compared, cut, sought, printed. -/
import Derived.Test.YtkhgmmejgikgnaaGreatDoorQueE
import Derived.Lib.Join
namespace Go.Proofs.YtkhgmmejgikgnaaGreatDoor
open Go.RowKit

theorem eqPair : EqOK Tryz.prog 61 [61] := ⟨Tryz.eqGuardType61, fun s hs => by rw [List.mem_singleton.1 hs]; exact Tryz.stoodInHeld61⟩
theorem samep_x (l : List PairS) (hl : l.length ≤ 1000000) (u v : Value) (W : PW) (h1 : RP pairC W u l) (h2 : RP pairC W v l) : CallsX Tryz.prog 18 ⟨[u, v]⟩ [] W fun r _ => r = .bool true := by
  obtain ⟨a1, c1, rfl, _, _⟩ := h1.form
  obtain ⟨a2, c2, rfl, _, _⟩ := h2.form
  refine pureX hmix Tryz.func18 r18 (by kernel_rfl) [.slice a1 l.length c1, .slice a2 l.length c2] rfl ?_
  refine ⟨rfl, br_nsplit (fun hn => absurd rfl hn) (fun _ => ?_)⟩
  refine ⟨Nat, fun i => [(5, .v (.int .i64 i))], fun _ => [], fun _ => [], fun i _ => i ≤ l.length, fun i => l.length - i, 0,
    all_sl ⟨rfl, trivial⟩, rfl, ole_refl _, Nat.zero_le _, loopOK (fun _ => ⟨⟨trivial, rfl⟩, trivial⟩) (fun _ => rfl) (fun _ => rfl), ?_⟩
  intro i W1 l1 hi fr
  refine ⟨rfl, br_split (fun hq => ?_) (fun hq => ?_)⟩
  · have hq : (i : Int) < l.length := hq
    obtain ⟨p1, rfl, x, hx, _, _, hr1⟩ := h1.at (sz := 2) (fun _ => rfl) l1 (j := i) ⟨by omega, hq⟩
    obtain ⟨p2, rfl, y, hy, _, _, hr2⟩ := h2.at (sz := 2) (fun _ => rfl) l1 (j := i) ⟨by omega, hq⟩
    obtain rfl : x = y := Option.some.inj (hx.symm.trans hy)
    refine ⟨⟨by omega, hq⟩, p1, rfl, pairC x, rfl, hr1.o, ⟨by omega, hq⟩, p2, rfl, pairC x, rfl, hr2.o, eqPair, ?_⟩
    refine br_f (by simp) ?_
    exact ⟨rfl, _, (i64_in ((i : Int) + 1) ⟨by omega, by omega⟩).symm, i + 1, all_sl ⟨rfl, trivial⟩, rfl, ole_refl _, by omega, by dsimp only; omega⟩
  exact ret_plain rfl fun _ _ => rfl

/-! ## Few -/
def fewP (k : Nat) (p : PairS) : PairS := ⟨p.name.take k, p.value.take k⟩
def fewL (n k : Nat) (l : List PairS) : List PairS := (l.take n).map (fewP k)
structure FSt where
  i : Nat
  A : Option Addr
  c : Nat
theorem fewL_take {n i : Nat} {l : List PairS} (h : ¬ (i < n ∧ i < l.length)) (h1 : i ≤ n) (h2 : i ≤ l.length) : l.take i = l.take n ∧ i = (l.take n).length := by
  rcases Nat.lt_or_ge i l.length with h3 | h3
  · obtain rfl : i = n := by omega
    exact ⟨rfl, by rw [List.length_take]; omega⟩
  · obtain rfl : i = l.length := by omega
    rw [List.take_length, List.take_of_length_le h1]
    exact ⟨rfl, rfl⟩
/-! ## Get -/
def getF (name : List UInt8) (r : List UInt8 × Nat) (p : PairS) : List UInt8 × Nat := if p.name = name then (p.value, r.2 + 1) else r
def getR (r : List UInt8 × Nat) : List UInt8 × Int := if r.2 = 0 then ([], 11) else if 1 < r.2 then ([], 10) else (r.1, 0)
def getS (l : List PairS) (name : List UInt8) : List UInt8 × Int := getR (l.foldl (getF name) ([], 0))
theorem foldl_step {l : List PairS} {i : Nat} {x : PairS} (name : List UInt8) (h : l[i]? = some x) : (l.take (i + 1)).foldl (getF name) ([], 0) = getF name ((l.take i).foldl (getF name) ([], 0)) x := by
  rw [List.take_add_one, h, Option.toList_some, List.foldl_append]; rfl
/-! ## Print -/
theorem lib_join (sep : List UInt8) : ∀ (x : List UInt8) (r : List (List UInt8)), Lib.join (x :: r) sep = match r with | [] => x | y :: r' => x ++ (sep ++ Lib.join (y :: r') sep)
  | x, [] => Lib.join_one x sep
  | x, y :: r => by
    simp only [Lib.join_cons, Lib.joinTail, List.map_cons, List.flatten_cons, List.append_assoc]
theorem joinW_lib (sep : List UInt8) : ∀ l : List (List UInt8), joinW sep l = Lib.join l sep
  | [] => rfl
  | [x] => by rw [Lib.join_one]; rfl
  | x :: y :: l => by
    have := joinW_lib sep (y :: l)
    rw [lib_join, joinW, this, List.append_assoc]
theorem sC_flat (l : List (List UInt8)) : (l.map sC).flatten = l.map strV := by
  induction l with
  | nil => rfl
  | cons a l ih => simp only [List.map_cons, List.flatten_cons, ih]; rfl
theorem joinW_len (sep : List UInt8) (n : Nat) : ∀ l : List (List UInt8), (∀ x ∈ l, x.length ≤ n) → (joinW sep l).length ≤ l.length * (n + sep.length)
  | [], _ => Nat.zero_le _
  | [x], h => by
    have := h x (List.mem_cons_self ..)
    simp only [joinW, List.length_cons, List.length_nil, Nat.zero_add, Nat.one_mul]; omega
  | x :: y :: l, h => by
    have h1 := h x (List.mem_cons_self ..)
    have h2 := joinW_len sep n (y :: l) fun z hz => h z (List.mem_cons_of_mem x hz)
    simp only [joinW, List.length_append, List.length_cons, Nat.add_mul, Nat.one_mul] at h2 ⊢; omega
theorem joinW_snoc (sep : List UInt8) (x : List UInt8) : ∀ l : List (List UInt8), joinW sep (l ++ [x]) = if l = [] then x else joinW sep l ++ sep ++ x
  | [] => rfl
  | [y] => by simp [joinW]
  | y :: z :: l => by
    have := joinW_snoc sep x (z :: l)
    rw [if_neg (by simp)] at this
    rw [if_neg (by simp)]
    show y ++ sep ++ joinW sep ((z :: l) ++ [x]) = _
    rw [this]
    simp only [joinW, List.append_assoc]
/-- No name, no value of them is too long. -/
def Lit (l : List PairS) : Prop := l.length ≤ 1000 ∧ ∀ p ∈ l, p.name.length ≤ 1000 ∧ p.value.length ≤ 1000
theorem pairT_len {p : PairS} (h : p.name.length ≤ 1000 ∧ p.value.length ≤ 1000) : (pairT p).length ≤ 6001 := by
  have h1 := escS_len p.name
  have h2 := escS_len p.value
  unfold pairT
  simp only [List.length_append, List.length_cons]; omega
theorem print_len {l : List PairS} (h : Lit l) : (printS l).length ≤ 6002000 := by
  have := joinW_len [38] 6001 (l.map pairT) fun x hx => by
    obtain ⟨p, hp, rfl⟩ := List.mem_map.1 hx
    exact pairT_len (h.2 p hp)
  rw [List.length_map] at this
  have h1 := h.1
  unfold printS
  have h2 : l.length * (6001 + [38].length) ≤ 1000 * 6002 := Nat.mul_le_mul h1 (Nat.le_refl _)
  omega
end Go.Proofs.YtkhgmmejgikgnaaGreatDoor
