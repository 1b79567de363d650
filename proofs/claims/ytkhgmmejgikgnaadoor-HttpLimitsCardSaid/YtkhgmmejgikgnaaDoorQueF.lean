/- Layer 5 (query), walked: pairs compared, cut, sought, printed. -/
import Derived.Test.YtkhgmmejgikgnaaDoorQueE
import Derived.Lib.Join
namespace Go.Proofs.YtkhgmmejgikgnaaDoor
open Go.RowKit

theorem eqPair : EqOK Tryd.prog 71 [71] := ⟨Tryd.eqGuardType71, fun s hs => by rw [List.mem_singleton.1 hs]; exact Tryd.stoodInHeld71⟩
theorem samep_x (l : List PairS) (hl : l.length ≤ 1000000) (u v : Value) (W : PW) (h1 : RP pairC W u l) (h2 : RP pairC W v l) : CallsX Tryd.prog 17 ⟨[u, v]⟩ [] W fun r _ => r = .bool true := by
  obtain ⟨a1, c1, rfl, _, _⟩ := h1.form
  obtain ⟨a2, c2, rfl, _, _⟩ := h2.form
  refine pureX hmix Tryd.func17 r17 (by kernel_rfl) [.slice a1 l.length c1, .slice a2 l.length c2] rfl ?_
  refine ⟨rfl, br_nsplit (fun hn => absurd rfl hn) (fun _ => ?_)⟩
  refine ⟨Nat, fun i => [(5, .v (.int .i64 i))], fun _ => [], fun _ => [], fun i _ => i ≤ l.length, fun i => l.length - i, 0,
    all_sl ⟨rfl, trivial⟩, rfl, ole_refl _, Nat.zero_le _, loopOK (fun _ => ⟨⟨trivial, rfl⟩, trivial⟩) (fun _ => rfl) (fun _ => rfl), ?_⟩
  intro i W1 l1 hi fr
  refine ⟨rfl, br_split (fun hq => ?_) (fun hq => ?_)⟩
  · have hq : (i : Int) < l.length := hq
    obtain ⟨p1, rfl, x, hx, _, _, hr1⟩ := h1.at (sz := 2) (fun _ => rfl) l1 (j := i) ⟨by omega, hq⟩
    obtain ⟨p2, rfl, y, hy, _, _, hr2⟩ := h2.at (sz := 2) (fun _ => rfl) l1 (j := i) ⟨by omega, hq⟩
    obtain rfl : x = y := Option.some.inj (hx.symm.trans hy)
    refine ⟨⟨by omega, hq⟩, p1, rfl, pairC x, rfl, hr1.o, ⟨by omega, hq⟩, p2, rfl, pairC x, rfl, hr2.o, eqPair, ?_⟩
    refine br_f (by simp) ?_
    exact ⟨rfl, _, (i64_in ((i : Int) + 1) ⟨by omega, by omega⟩).symm, i + 1, all_sl ⟨rfl, trivial⟩, rfl, ole_refl _, by omega, by dsimp only; omega⟩
  exact ret_plain rfl fun _ _ => rfl

/-! ## Few -/
def fewP (k : Nat) (p : PairS) : PairS := ⟨p.name.take k, p.value.take k⟩
def fewL (n k : Nat) (l : List PairS) : List PairS := (l.take n).map (fewP k)
structure FSt where
  i : Nat
  A : Option Addr
  c : Nat
theorem fewL_take {n i : Nat} {l : List PairS} (h : ¬ (i < n ∧ i < l.length)) (h1 : i ≤ n) (h2 : i ≤ l.length) : l.take i = l.take n ∧ i = (l.take n).length := by
  rcases Nat.lt_or_ge i l.length with h3 | h3
  · obtain rfl : i = n := by omega
    exact ⟨rfl, by rw [List.length_take]; omega⟩
  · obtain rfl : i = l.length := by omega
    rw [List.take_length, List.take_of_length_le h1]
    exact ⟨rfl, rfl⟩
set_option maxHeartbeats 4000000 in
theorem fewp_x (l : List PairS) (n k : Nat) (hn : n ≤ 1000) (u : Value) (W : PW) (h : RP pairC W u l) : CallsX Tryd.prog 26 ⟨[u, .int .i64 n, .int .i64 k]⟩ [] W fun v W' => RP pairC W' v (fewL n k l) := by
  obtain ⟨a1, c1, rfl, _, hc1⟩ := h.form
  have hmax : (100000000 : Nat) ≤ maxLen := by decide
  refine pureNX hmix Tryd.func26 r26 (by kernel_rfl) [nilO 71 2] rfl [.slice a1 l.length c1, .int .i64 n, .int .i64 k] rfl ?_
  refine ⟨FSt, fun t => [(7, .v (.slice t.A t.i t.c)), (8, .v (.int .i64 t.i))], fun _ => [], fun t => [⟨.slice t.A t.i t.c, 71, 2, t.i, (((l.take t.i).map (fewP k)).map pairC).flatten⟩], fun t _ => t.i ≤ n ∧ t.i ≤ l.length, fun t => n - t.i, ⟨0, none, 0⟩,
    all_sl ⟨rfl, rfl, trivial⟩, rfl, ole_refl _, ⟨Nat.zero_le _, Nat.zero_le _⟩, loopOK (fun _ => ⟨⟨trivial, rfl⟩, ⟨trivial, rfl⟩, trivial⟩) (fun _ => rfl) (fun _ => rfl), ?_⟩
  rintro ⟨i, A, c⟩ W5 l5 ⟨hi, hil⟩ fr
  dsimp only at hi hil
  have out : ¬ (i < n ∧ i < l.length) → RetVC ⟨W, [], []⟩ [.v (.slice A i c)] (fun v W' => RP pairC W' v (fewL n k l)) ⟨[], [⟨.slice A i c, 71, 2, i, (((l.take i).map (fewP k)).map pairC).flatten⟩], W5⟩ := fun hne => by
    obtain ⟨e1, e2⟩ := fewL_take hne hi hil
    refine RetVC.freeze (fun _ hb => hb) (i := 0) rfl fun Wm lm hs0 => ?_
    refine ret_plain rfl fun W' lw => ?_
    have hs := SlRead.mono hs0 lw
    have e : (fewL n k l).length = i := by unfold fewL; rw [List.length_map, ← e2]
    unfold RP
    rw [e]
    unfold fewL
    rw [← e1]
    exact hs
  refine ⟨rfl, ?_⟩
  apply br_split
  · intro h1
    have h1 : (i : Int) < l.length := h1
    refine ⟨rfl, br_split (fun h2 => ?_) (fun h2 => ?_)⟩
    · have h2 : (i : Int) < n := h2
      obtain ⟨p1, rfl, x, hx, hall, h0, _⟩ := h.at (sz := 2) (fun _ => rfl) l5 (j := i) ⟨by omega, h1⟩
      have hx : l[i]? = some x := hx
      refine ⟨⟨by omega, h1⟩, p1, rfl, strV x.name, (hall 0 _ rfl).o, ⟨by omega, h1⟩, p1, rfl, strV x.value, (hall 1 _ rfl).o, ?_⟩
      refine call_v rfl (fun W' _ => short_x x.name k W') (fun W6 v W7 l6 l7 hv => ?_)
      subst hv
      refine call_v rfl (fun W' _ => short_x x.value k W') (fun W8 v W9 l8 l9 hv => ?_)
      subst hv
      refine ⟨rfl, .inl fun g W12 l12 hg => ⟨0, _, pairC (fewP k x), rfl, rfl, rfl, rfl, rfl, pairC_one _, fun _ => ⟨_, rfl, hg.o⟩, by show i + 1 ≤ _; omega, by show (i + 1) * 32 ≤ _; omega, rfl, @fun A1 d1 _ => ?_⟩⟩
      have e : (((l.take (i + 1)).map (fewP k)).map pairC).flatten = (((l.take i).map (fewP k)).map pairC).flatten ++ pairC (fewP k x) := by rw [List.take_add_one, hx]; simp
      refine ⟨rfl, _, (i64_in ((i : Int) + 1) ⟨by omega, by omega⟩).symm, ⟨i + 1, A1, d1⟩, all_sl ⟨rfl, rfl, trivial⟩, rfl, ole_eq ?_, ⟨by dsimp only; omega, by dsimp only; omega⟩, by dsimp only; omega⟩
      dsimp only
      rw [e]; rfl
    · have h2 : ¬ (i : Int) < n := h2
      exact out (by omega)
  · intro h1
    have h1 : ¬ (i : Int) < l.length := h1
    exact out (by omega)

/-! ## Get -/
def getF (name : List UInt8) (r : List UInt8 × Nat) (p : PairS) : List UInt8 × Nat := if p.name = name then (p.value, r.2 + 1) else r
def getR (r : List UInt8 × Nat) : List UInt8 × Int := if r.2 = 0 then ([], 11) else if 1 < r.2 then ([], 10) else (r.1, 0)
def getS (l : List PairS) (name : List UInt8) : List UInt8 × Int := getR (l.foldl (getF name) ([], 0))
theorem foldl_step {l : List PairS} {i : Nat} {x : PairS} (name : List UInt8) (h : l[i]? = some x) : (l.take (i + 1)).foldl (getF name) ([], 0) = getF name ((l.take i).foldl (getF name) ([], 0)) x := by
  rw [List.take_add_one, h, Option.toList_some, List.foldl_append]; rfl
set_option maxHeartbeats 4000000 in
theorem get_x (l : List PairS) (name : List UInt8) (hl : l.length ≤ 1000000) (u : Value) (W : PW) (h : RP pairC W u l) : CallsX Tryd.prog 34 ⟨[u, strV name]⟩ [] W fun v _ => v = .tuple ⟨[strV (getS l name).1, .int .i64 (getS l name).2]⟩ := by
  obtain ⟨a1, c1, rfl, _, _⟩ := h.form
  refine pureX hmix Tryd.func34 r34 (by kernel_rfl) [.slice a1 l.length c1, strV name] rfl ?_
  refine ⟨Nat × List UInt8 × Nat, fun t => [(12, .v (.int .i64 t.1)), (6, .v (strV t.2.1)), (7, .v (.int .i64 t.2.2))], fun _ => [], fun _ => [], fun t _ => t.1 ≤ l.length ∧ t.2.2 ≤ t.1 ∧ (l.take t.1).foldl (getF name) ([], 0) = t.2, fun t => l.length - t.1, (0, [], 0),
    all_sl ⟨rfl, rfl, rfl, trivial⟩, rfl, ole_refl _, ⟨Nat.zero_le _, Nat.le_refl _, rfl⟩, loopOK (fun _ => ⟨⟨trivial, rfl⟩, ⟨trivial, rfl⟩, ⟨trivial, rfl⟩, trivial⟩) (fun _ => rfl) (fun _ => rfl), ?_⟩
  rintro ⟨i, val, n⟩ W5 l5 ⟨hi, hn, hI⟩ fr
  dsimp only at hi hn hI
  refine ⟨rfl, br_split (fun hq => ?_) (fun hq => ?_)⟩
  · have hq : (i : Int) < l.length := hq
    obtain ⟨p1, rfl, x, hx, _, _, hr1⟩ := h.at (sz := 2) (fun _ => rfl) l5 (j := i) ⟨by omega, hq⟩
    have hst := foldl_step name (show l[i]? = some x from hx)
    rw [hI] at hst
    have inc := (i64_in ((i : Int) + 1) ⟨by omega, by omega⟩).symm
    refine ⟨⟨by omega, hq⟩, p1, rfl, pairC x, rfl, hr1.o, br_split (fun he => ?_) (fun he => ?_)⟩
    · have he : x.name = name := he
      unfold getF at hst
      rw [if_pos he] at hst
      exact ⟨rfl, ((n + 1 : Nat) : Int), (show ((n + 1 : Nat) : Int) = IntKind.i64.wrap ((n : Int) + 1) by rw [i64_in _ ⟨by omega, by omega⟩]; omega), rfl, _, inc, (i + 1, x.value, n + 1), all_sl ⟨rfl, rfl, rfl, trivial⟩, rfl, ole_refl _, ⟨by dsimp only; omega, by dsimp only; omega, hst⟩, by dsimp only; omega⟩
    · have he : ¬ x.name = name := he
      unfold getF at hst
      rw [if_neg he] at hst
      exact ⟨rfl, _, inc, (i + 1, val, n), all_sl ⟨rfl, rfl, rfl, trivial⟩, rfl, ole_refl _, ⟨by dsimp only; omega, by dsimp only; omega, hst⟩, by dsimp only; omega⟩
  · have hq : ¬ (i : Int) < l.length := hq
    rw [List.take_of_length_le (by omega)] at hI
    have hG : getS l name = getR (val, n) := by unfold getS; rw [hI]
    rw [hG]
    unfold getR
    dsimp only
    refine ⟨rfl, br_split (fun h0 => ?_) (fun h0 => ?_)⟩
    · have h0 : (n : Int) = 0 := h0
      exact ret_plain rfl fun _ _ => by rw [if_pos (by omega)]; rfl
    · have h0 : ¬ (n : Int) = 0 := h0
      refine ⟨rfl, br_split (fun h1 => ?_) (fun h1 => ?_)⟩
      · have h1 : (1 : Int) < n := h1
        exact ret_plain rfl fun _ _ => by rw [if_neg (by omega), if_pos (by omega)]; rfl
      · have h1 : ¬ (1 : Int) < n := h1
        exact ret_plain rfl fun _ _ => by rw [if_neg (by omega), if_neg (by omega)]
set_option maxHeartbeats 4000000 in
theorem refget_x (l : List PairS) (name : List UInt8) (hl : l.length ≤ 1000000) (u : Value) (W : PW) (h : RP pairC W u l) : CallsX Tryd.prog 35 ⟨[u, strV name]⟩ [] W fun v _ => v = .tuple ⟨[strV (getS l name).1, .int .i64 (getS l name).2]⟩ := by
  obtain ⟨a1, c1, rfl, _, _⟩ := h.form
  refine pureX hmix Tryd.func35 r35 (by kernel_rfl) [.slice a1 l.length c1, strV name] rfl ?_
  refine ⟨Nat × List UInt8 × Nat, fun t => [(8, .v (.int .i64 t.1)), (6, .v (strV t.2.1)), (7, .v (.int .i64 t.2.2))], fun _ => [], fun _ => [], fun t _ => t.1 ≤ l.length ∧ t.2.2 ≤ t.1 ∧ (l.take t.1).foldl (getF name) ([], 0) = t.2, fun t => l.length - t.1, (0, [], 0),
    all_sl ⟨rfl, rfl, rfl, trivial⟩, rfl, ole_refl _, ⟨Nat.zero_le _, Nat.le_refl _, rfl⟩, loopOK (fun _ => ⟨⟨trivial, rfl⟩, ⟨trivial, rfl⟩, ⟨trivial, rfl⟩, trivial⟩) (fun _ => rfl) (fun _ => rfl), ?_⟩
  rintro ⟨i, val, n⟩ W5 l5 ⟨hi, hn, hI⟩ fr
  dsimp only at hi hn hI
  refine ⟨rfl, br_split (fun hq => ?_) (fun hq => ?_)⟩
  · have hq : (i : Int) < l.length := hq
    obtain ⟨p1, rfl, x, hx, hall, _, _⟩ := h.at (sz := 2) (fun _ => rfl) l5 (j := i) ⟨by omega, hq⟩
    have hst := foldl_step name (show l[i]? = some x from hx)
    rw [hI] at hst
    have inc := (i64_in ((i : Int) + 1) ⟨by omega, by omega⟩).symm
    refine ⟨⟨by omega, hq⟩, p1, rfl, strV x.name, (hall 0 _ rfl).o, br_split (fun he => ?_) (fun he => ?_)⟩
    · have he : x.name = name := he
      unfold getF at hst
      rw [if_pos he] at hst
      exact ⟨⟨by omega, hq⟩, p1, rfl, strV x.value, (hall 1 _ rfl).o, rfl, ((n + 1 : Nat) : Int), (show ((n + 1 : Nat) : Int) = IntKind.i64.wrap ((n : Int) + 1) by rw [i64_in _ ⟨by omega, by omega⟩]; omega), rfl, _, inc, (i + 1, x.value, n + 1), all_sl ⟨rfl, rfl, rfl, trivial⟩, rfl, ole_refl _, ⟨by dsimp only; omega, by dsimp only; omega, hst⟩, by dsimp only; omega⟩
    · have he : ¬ x.name = name := he
      unfold getF at hst
      rw [if_neg he] at hst
      exact ⟨rfl, _, inc, (i + 1, val, n), all_sl ⟨rfl, rfl, rfl, trivial⟩, rfl, ole_refl _, ⟨by dsimp only; omega, by dsimp only; omega, hst⟩, by dsimp only; omega⟩
  · have hq : ¬ (i : Int) < l.length := hq
    rw [List.take_of_length_le (by omega)] at hI
    have hG : getS l name = getR (val, n) := by unfold getS; rw [hI]
    rw [hG]
    unfold getR
    dsimp only
    refine ⟨rfl, br_split (fun h0 => ?_) (fun h0 => ?_)⟩
    · have h0 : (n : Int) = 0 := h0
      exact ret_plain rfl fun _ _ => by rw [if_pos (by omega)]; rfl
    · have h0 : ¬ (n : Int) = 0 := h0
      refine ⟨rfl, br_split (fun h1 => ?_) (fun h1 => ?_)⟩
      · have h1 : (1 : Int) < n := h1
        exact ret_plain rfl fun _ _ => by rw [if_neg (by omega), if_pos (by omega)]; rfl
      · have h1 : ¬ (1 : Int) < n := h1
        exact ret_plain rfl fun _ _ => by rw [if_neg (by omega), if_neg (by omega)]

/-! ## Print -/
theorem lib_join (sep : List UInt8) : ∀ (x : List UInt8) (r : List (List UInt8)), Lib.join (x :: r) sep = match r with | [] => x | y :: r' => x ++ (sep ++ Lib.join (y :: r') sep)
  | x, [] => Lib.join_one x sep
  | x, y :: r => by
    simp only [Lib.join_cons, Lib.joinTail, List.map_cons, List.flatten_cons, List.append_assoc]
theorem joinW_lib (sep : List UInt8) : ∀ l : List (List UInt8), joinW sep l = Lib.join l sep
  | [] => rfl
  | [x] => by rw [Lib.join_one]; rfl
  | x :: y :: l => by
    have := joinW_lib sep (y :: l)
    rw [lib_join, joinW, this, List.append_assoc]
theorem joinlib_x {e : TypeId} (xs : List (List UInt8)) (sep : List UInt8) (W : PW) (v : Value) (h : W.w.ownsRow 0 e 1 v xs.length (xs.map strV)) (hN : xs.length ≤ 100000000) (hlen : (Lib.join xs sep).length ≤ 100000000) :
    CallsX Tryd.prog 72 ⟨[v, strV sep]⟩ [] W fun r _ => r = strV (Lib.join xs sep) := by
  have hcall : Callable Tryd.prog 72 := ⟨_, Tryd.func72, by kernel_rfl, by kernel_rfl⟩
  rcases h.2 with ⟨rfl, hn⟩ | ⟨g, cap, cur, rfl, _, hg, h1, h2, h3, h4⟩
  · have hx : xs = [] := List.eq_nil_of_length_eq_zero hn
    subst hx
    exact CallsX.of_same hcall (Tryd.strings_Join_none none 0 ⟨⟨sep⟩⟩ W.w)
  · have hcell : ∀ (j : Nat) x, (xs.map fun l => (⟨⟨l⟩⟩ : ByteArray))[j]? = some x → W.w.cell? ⟨g, 0 + j, none⟩ = some (.string x) := by
      intro j x hj
      rw [List.getElem?_map] at hj
      cases hx : xs[j]? with
      | none => rw [hx] at hj; cases hj
      | some l =>
        rw [hx] at hj
        simp only [Option.map_some, Option.some.injEq] at hj
        subst hj
        have hj2 : (xs.map strV)[j]? = some (strV l) := by rw [List.getElem?_map, hx]; rfl
        rw [← h4, List.getElem?_take] at hj2
        split at hj2
        · simp [World.cell?, hg]
          rw [← Array.getElem?_toList]; exact hj2
        · cases hj2
    have he : (xs.map fun l => (⟨⟨l⟩⟩ : ByteArray)).map (·.data.toList) = xs := by
      rw [List.map_map]; exact List.map_id _
    have hlt : g < W.w.heap.size := (Array.getElem?_eq_some_iff.1 hg).1
    have := Tryd.strings_Join g 0 cap (xs.map fun l => (⟨⟨l⟩⟩ : ByteArray)) ⟨⟨sep⟩⟩ W.w hcell hlt (by rw [List.length_map]; omega) (by rw [List.length_map]; omega) (by rw [he]; exact Nat.le_trans hlen (by decide))
    rw [he, List.length_map] at this
    exact CallsX.of_at hcall this
theorem sC_flat (l : List (List UInt8)) : (l.map sC).flatten = l.map strV := by
  induction l with
  | nil => rfl
  | cons a l ih => simp only [List.map_cons, List.flatten_cons, ih]; rfl
theorem joinW_len (sep : List UInt8) (n : Nat) : ∀ l : List (List UInt8), (∀ x ∈ l, x.length ≤ n) → (joinW sep l).length ≤ l.length * (n + sep.length)
  | [], _ => Nat.zero_le _
  | [x], h => by
    have := h x (List.mem_cons_self ..)
    simp only [joinW, List.length_cons, List.length_nil, Nat.zero_add, Nat.one_mul]; omega
  | x :: y :: l, h => by
    have h1 := h x (List.mem_cons_self ..)
    have h2 := joinW_len sep n (y :: l) fun z hz => h z (List.mem_cons_of_mem x hz)
    simp only [joinW, List.length_append, List.length_cons, Nat.add_mul, Nat.one_mul] at h2 ⊢; omega
theorem joinW_snoc (sep : List UInt8) (x : List UInt8) : ∀ l : List (List UInt8), joinW sep (l ++ [x]) = if l = [] then x else joinW sep l ++ sep ++ x
  | [] => rfl
  | [y] => by simp [joinW]
  | y :: z :: l => by
    have := joinW_snoc sep x (z :: l)
    rw [if_neg (by simp)] at this
    rw [if_neg (by simp)]
    show y ++ sep ++ joinW sep ((z :: l) ++ [x]) = _
    rw [this]
    simp only [joinW, List.append_assoc]
/-- No name, no value of them is too long. -/
def Lit (l : List PairS) : Prop := l.length ≤ 1000 ∧ ∀ p ∈ l, p.name.length ≤ 1000 ∧ p.value.length ≤ 1000
theorem pairT_len {p : PairS} (h : p.name.length ≤ 1000 ∧ p.value.length ≤ 1000) : (pairT p).length ≤ 6001 := by
  have h1 := escS_len p.name
  have h2 := escS_len p.value
  unfold pairT
  simp only [List.length_append, List.length_cons]; omega
theorem print_len {l : List PairS} (h : Lit l) : (printS l).length ≤ 6002000 := by
  have := joinW_len [38] 6001 (l.map pairT) fun x hx => by
    obtain ⟨p, hp, rfl⟩ := List.mem_map.1 hx
    exact pairT_len (h.2 p hp)
  rw [List.length_map] at this
  have h1 := h.1
  unfold printS
  have h2 : l.length * (6001 + [38].length) ≤ 1000 * 6002 := Nat.mul_le_mul h1 (Nat.le_refl _)
  omega
set_option maxHeartbeats 4000000 in
theorem qprint_x (l : List PairS) (hl : Lit l) (u : Value) (W : PW) (h : RP pairC W u l) : CallsX Tryd.prog 33 ⟨[u]⟩ [] W fun v _ => v = strV (printS l) := by
  obtain ⟨a1, c1, rfl, _, _⟩ := h.form
  have hl1 := hl.1
  have hmax : (100000000 : Nat) ≤ maxLen := by decide
  refine pureNX hmix Tryd.func33 r33 (by kernel_rfl) [nilO 9 1] rfl [.slice a1 l.length c1] rfl ?_
  refine ⟨FSt, fun t => [(3, .v (.slice t.A t.i t.c)), (8, .v (.int .i64 t.i))], fun _ => [], fun t => [⟨.slice t.A t.i t.c, 9, 1, t.i, (((l.take t.i).map pairT).map sC).flatten⟩], fun t _ => t.i ≤ l.length, fun t => l.length - t.i, ⟨0, none, 0⟩,
    all_sl ⟨rfl, rfl, trivial⟩, rfl, ole_refl _, Nat.zero_le _, loopOK (fun _ => ⟨⟨trivial, rfl⟩, ⟨trivial, rfl⟩, trivial⟩) (fun _ => rfl) (fun _ => rfl), ?_⟩
  rintro ⟨i, A, c⟩ W5 l5 hi fr
  dsimp only at hi
  refine ⟨rfl, br_split (fun hq => ?_) (fun hq => ?_)⟩
  · have hq : (i : Int) < l.length := hq
    obtain ⟨p1, rfl, x, hx, _, _, hr1⟩ := h.at (sz := 2) (fun _ => rfl) l5 (j := i) ⟨by omega, hq⟩
    have hx : l[i]? = some x := hx
    have hxl := hl.2 x (List.mem_of_getElem? hx)
    have e1 := escS_len x.name
    have e2 := escS_len x.value
    refine ⟨⟨by omega, hq⟩, p1, rfl, pairC x, rfl, hr1.o, ?_⟩
    refine call_v rfl (fun W' _ => escape_x x.name (by omega) W') (fun W6 v W7 l6 l7 hv => ?_)
    obtain ⟨y, hy, rfl⟩ : ∃ y, escS x.name = y ∧ v = strV y := ⟨_, rfl, hv⟩
    rw [hy] at e1
    refine ⟨cat_q 100000 (by show y.length + 1 ≤ _; omega) (by decide), ?_⟩
    refine call_v rfl (fun W' _ => escape_x x.value (by omega) W') (fun W8 v W9 l8 l9 hv => ?_)
    obtain ⟨z, hz, rfl⟩ : ∃ z, escS x.value = z ∧ v = strV z := ⟨_, rfl, hv⟩
    rw [hz] at e2
    refine ⟨cat_q 100000 (by show (y ++ [61]).length + z.length ≤ _; rw [List.length_append]; show y.length + 1 + z.length ≤ _; omega) (by decide), rfl, .inl fun g W12 l12 hg => ⟨0, _, sC (y ++ [61] ++ z), rfl, rfl, rfl, rfl, rfl, sC_one _, fun _ => ⟨_, rfl, hg.o⟩, by show i + 1 ≤ _; omega, by show (i + 1) * 16 ≤ _; omega, rfl, @fun A1 d1 _ => ?_⟩⟩
    have e : (((l.take (i + 1)).map pairT).map sC).flatten = (((l.take i).map pairT).map sC).flatten ++ sC (y ++ [61] ++ z) := by
      rw [List.take_add_one, hx]
      simp [pairT, hy, hz]
    refine ⟨rfl, _, (i64_in ((i : Int) + 1) ⟨by omega, by omega⟩).symm, ⟨i + 1, A1, d1⟩, all_sl ⟨rfl, rfl, trivial⟩, rfl, ole_eq ?_, by dsimp only; omega, by dsimp only; omega⟩
    dsimp only
    rw [e]; rfl
  · have hq : ¬ (i : Int) < l.length := hq
    obtain rfl : i = l.length := by omega
    refine call_ro (fun v => v = strV (printS l)) ⟨_, Tryd.func72, by kernel_rfl, by kernel_rfl⟩ (fun ρ w hst => ?_) (fun v W' _ hv => ?_)
    · have ho := (hst.own 0 _ rfl).1
      have hlen := print_len hl
      unfold printS at hlen ⊢
      rw [joinW_lib] at hlen ⊢
      refine joinlib_x (e := 9) (l.map pairT) [38] _ _ ?_ (by rw [List.length_map]; omega) (by omega)
      have e : (((l.take l.length).map pairT).map sC).flatten = (l.map pairT).map strV := by rw [List.take_length, sC_flat]
      rw [← e, List.length_map]
      exact ho
    · subst hv
      exact ret_plain rfl fun _ _ => rfl
set_option maxHeartbeats 4000000 in
theorem refprint_x (l : List PairS) (hl : Lit l) (u : Value) (W : PW) (h : RP pairC W u l) : CallsX Tryd.prog 36 ⟨[u]⟩ [] W fun v _ => v = strV (printS l) := by
  obtain ⟨a1, c1, rfl, _, _⟩ := h.form
  have hl1 := hl.1
  refine pureX hmix Tryd.func36 r36 (by kernel_rfl) [.slice a1 l.length c1] rfl ?_
  refine ⟨Nat × List UInt8, fun t => [(4, .v (.int .i64 t.1)), (3, .v (strV t.2))], fun _ => [], fun _ => [], fun t _ => t.1 ≤ l.length ∧ t.2 = printS (l.take t.1), fun t => l.length - t.1, (0, []),
    all_sl ⟨rfl, rfl, trivial⟩, rfl, ole_refl _, ⟨Nat.zero_le _, rfl⟩, loopOK (fun _ => ⟨⟨trivial, rfl⟩, ⟨trivial, rfl⟩, trivial⟩) (fun _ => rfl) (fun _ => rfl), ?_⟩
  rintro ⟨i, acc⟩ W5 l5 ⟨hi, hacc⟩ fr
  dsimp only at hi hacc
  have hal : acc.length ≤ 6002000 := by
    rw [hacc]
    exact print_len ⟨by rw [List.length_take]; omega, fun p hp => hl.2 p (List.mem_of_mem_take hp)⟩
  refine ⟨rfl, br_split (fun hq => ?_) (fun hq => ?_)⟩
  · have hq : (i : Int) < l.length := hq
    obtain ⟨p1, rfl, x, hx, hall, _, _⟩ := h.at (sz := 2) (fun _ => rfl) l5 (j := i) ⟨by omega, hq⟩
    have hx : l[i]? = some x := hx
    have hxl := hl.2 x (List.mem_of_getElem? hx)
    have e1 := escS_len x.name
    have e2 := escS_len x.value
    have hst : printS (l.take (i + 1)) = (if i = 0 then [] else acc ++ [38]) ++ pairT x := by
      unfold printS
      rw [List.take_add_one, hx, Option.toList_some, List.map_append, List.map_singleton, joinW_snoc]
      by_cases h0 : i = 0
      · subst h0; simp
      · rw [if_neg h0, if_neg, hacc]
        · rfl
        · simp only [List.map_eq_nil_iff, List.take_eq_nil_iff]
          rintro (e | e)
          · exact h0 e
          · rw [e] at hq; simp at hq; omega
    refine ⟨rfl, br_split (fun h0 => ?_) (fun h0 => ?_)⟩
    · have h0 : (0 : Int) < i := h0
      rw [if_neg (by omega)] at hst
      refine ⟨cat_q 7000000 (by show acc.length + 1 ≤ _; omega) (by decide), ?_⟩
      obtain ⟨b, hb, hbl⟩ : ∃ b, acc ++ [38] = b ∧ b.length ≤ 6002001 := ⟨_, rfl, by simp; omega⟩
      rw [hb] at hst
      refine ⟨⟨by omega, hq⟩, p1, rfl, strV x.name, (hall 0 _ rfl).o, ⟨by omega, hq⟩, p1, rfl, strV x.value, (hall 1 _ rfl).o, ?_⟩
      refine call_v rfl (fun W' _ => refescape_x x.name (by omega) W') (fun W6 v W7 l6 l7 hv => ?_)
      obtain ⟨y, hy, rfl⟩ : ∃ y, escS x.name = y ∧ v = strV y := ⟨_, rfl, hv⟩
      rw [hy] at e1
      refine ⟨cat_q 7000000 (by show (acc ++ [38]).length + y.length ≤ _; rw [hb]; omega) (by decide), cat_q 7000000 (by show (acc ++ [38] ++ y).length + 1 ≤ _; rw [hb, List.length_append]; omega) (by decide), ?_⟩
      refine call_v rfl (fun W' _ => refescape_x x.value (by omega) W') (fun W8 v W9 l8 l9 hv => ?_)
      obtain ⟨z, hz, rfl⟩ : ∃ z, escS x.value = z ∧ v = strV z := ⟨_, rfl, hv⟩
      rw [hz] at e2
      refine ⟨cat_q 8000000 (by show (acc ++ [38] ++ y ++ [61]).length + z.length ≤ _; rw [hb, List.length_append, List.length_append]; show b.length + y.length + 1 + z.length ≤ _; omega) (by decide), rfl, _, (i64_in ((i : Int) + 1) ⟨by omega, by omega⟩).symm, (i + 1, b ++ pairT x), all_sl ⟨rfl, ?_, trivial⟩, rfl, ole_refl _, ⟨by dsimp only; omega, by dsimp only; rw [hst]⟩, by dsimp only; omega⟩
      show GV.v (strV (acc ++ [38] ++ y ++ [61] ++ z)) = .v (strV (b ++ pairT x))
      rw [hb, pairT, hy, hz]; simp
    · have h0 : ¬ (0 : Int) < i := h0
      obtain rfl : i = 0 := by omega
      have ha0 : acc = [] := hacc
      subst ha0
      refine ⟨⟨by omega, hq⟩, p1, rfl, strV x.name, (hall 0 _ rfl).o, ⟨by omega, hq⟩, p1, rfl, strV x.value, (hall 1 _ rfl).o, ?_⟩
      refine call_v rfl (fun W' _ => refescape_x x.name (by omega) W') (fun W6 v W7 l6 l7 hv => ?_)
      obtain ⟨y, hy, rfl⟩ : ∃ y, escS x.name = y ∧ v = strV y := ⟨_, rfl, hv⟩
      rw [hy] at e1
      refine ⟨cat_q 7000000 (by show 0 + y.length ≤ _; omega) (by decide), cat_q 7000000 (by show y.length + 1 ≤ _; omega) (by decide), ?_⟩
      refine call_v rfl (fun W' _ => refescape_x x.value (by omega) W') (fun W8 v W9 l8 l9 hv => ?_)
      obtain ⟨z, hz, rfl⟩ : ∃ z, escS x.value = z ∧ v = strV z := ⟨_, rfl, hv⟩
      rw [hz] at e2
      refine ⟨cat_q 8000000 (by show (y ++ [61]).length + z.length ≤ _; rw [List.length_append]; show y.length + 1 + z.length ≤ _; omega) (by decide), rfl, _, (i64_in (((0 : Nat) : Int) + 1) ⟨by omega, by omega⟩).symm, (1, pairT x), all_sl ⟨rfl, ?_, trivial⟩, rfl, ole_refl _, ⟨by dsimp only; omega, by dsimp only; rw [hst]; rfl⟩, by dsimp only; omega⟩
      show GV.v (strV (y ++ [61] ++ z)) = .v (strV (pairT x))
      rw [pairT, hy, hz]; simp
  · have hq : ¬ (i : Int) < l.length := hq
    rw [List.take_of_length_le (by omega)] at hacc
    exact ret_plain rfl fun _ _ => by rw [← hacc]
end Go.Proofs.YtkhgmmejgikgnaaDoor
