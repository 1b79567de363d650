/- Joined tokens, walked: the program's Join and the document's; the library's Join; 'same'. -/
import Derived.Test.YtcgbcbdgjhnlaaaLexD
import Derived.Test.YtcgbcbdgjhnlaaaShelfJ
namespace Go.Proofs.Ytcgbcbdgjhnlaaa
open Go.RowKit

theorem lib_join (sep : List UInt8) : ∀ (x : List UInt8) (r : List (List UInt8)), Lib.join (x :: r) sep = match r with | [] => x | y :: r' => x ++ (sep ++ Lib.join (y :: r') sep)
  | x, [] => Lib.join_one x sep
  | x, y :: r => by
    simp only [Lib.join_cons, Lib.joinTail, List.map_cons, List.flatten_cons, List.append_assoc]
theorem joinT_lib : ∀ l : List Tok, joinT l = Lib.join (l.map Tok.txt) [32]
  | [] => rfl
  | [x] => by simp only [List.map_cons, List.map_nil, Lib.join_one]; rfl
  | x :: y :: l => by
    have := joinT_lib (y :: l)
    simp only [List.map_cons] at this ⊢
    rw [lib_join, joinT, this]; rfl
theorem joinlib_x {e : TypeId} (xs : List (List UInt8)) (sep : List UInt8) (W : PW) (v : Value) (h : W.w.ownsRow 0 e 1 v xs.length (xs.map strV)) (hN : xs.length ≤ 100000000) (hlen : (Lib.join xs sep).length ≤ 100000000) :
    CallsX Try.prog 84 ⟨[v, strV sep]⟩ [] W fun r _ => r = strV (Lib.join xs sep) := by
  have hcall : Callable Try.prog 84 := ⟨_, Try.func84, by kernel_rfl, by kernel_rfl⟩
  rcases h.2 with ⟨rfl, hn⟩ | ⟨g, cap, cur, rfl, _, hg, h1, h2, h3, h4⟩
  · have hx : xs = [] := List.eq_nil_of_length_eq_zero hn
    subst hx
    exact CallsX.of_same hcall (Try.strings_Join_none none 0 ⟨⟨sep⟩⟩ W.w)
  · have hcell : ∀ (j : Nat) x, (xs.map fun l => (⟨⟨l⟩⟩ : ByteArray))[j]? = some x → W.w.cell? ⟨g, 0 + j, none⟩ = some (.string x) := by
      intro j x hj
      rw [List.getElem?_map] at hj
      cases hx : xs[j]? with
      | none => rw [hx] at hj; cases hj
      | some l =>
        rw [hx] at hj
        simp only [Option.map_some, Option.some.injEq] at hj
        subst hj
        have hj2 : (xs.map strV)[j]? = some (strV l) := by rw [List.getElem?_map, hx]; rfl
        rw [← h4, List.getElem?_take] at hj2
        split at hj2
        · simp [World.cell?, hg]
          rw [← Array.getElem?_toList]; exact hj2
        · cases hj2
    have he : (xs.map fun l => (⟨⟨l⟩⟩ : ByteArray)).map (·.data.toList) = xs := by
      rw [List.map_map]; exact List.map_id _
    have hlt : g < W.w.heap.size := (Array.getElem?_eq_some_iff.1 hg).1
    have := Try.strings_Join g 0 cap (xs.map fun l => (⟨⟨l⟩⟩ : ByteArray)) ⟨⟨sep⟩⟩ W.w hcell hlt (by rw [List.length_map]; omega) (by rw [List.length_map]; omega) (by rw [he]; exact Nat.le_trans hlen (by decide))
    rw [he, List.length_map] at this
    exact CallsX.of_at hcall this
theorem cat_le' {a b : List UInt8} {n m : Nat} (ha : a.length ≤ n) (hb : b.length ≤ m) (h : n + m ≤ 9223372036854775807) : (a.length : Int) + b.length ≤ 9223372036854775807 := by omega
theorem cat_n' {a b : List UInt8} {n m : Nat} (ha : a.length ≤ n) (hb : b.length ≤ m) : (a ++ b).length ≤ n + m := by simp; omega
def TokB (l : List Tok) : Prop := l.length ≤ 1000 ∧ ∀ x ∈ l, x.t.length ≤ 1000
theorem TokB.take {l : List Tok} (h : TokB l) (i : Nat) : TokB (l.take i) := ⟨by simp; have := h.1; omega, fun x hx => h.2 x (List.mem_of_mem_take hx)⟩
theorem TokB.len {l : List Tok} (h : TokB l) : (joinT l).length ≤ 1003000 := by
  have h1 := joinT_len l h.2
  have h2 : l.length * (1000 + 3) ≤ 1000 * (1000 + 3) := Nat.mul_le_mul_right _ h.1
  omega
set_option maxHeartbeats 2000000 in
theorem lexjoin_x (l : List Tok) (n : Nat) (u : Value) (hb : TokB l) (W : PW) (h : RP (tokC n) W u l) : CallsX Try.prog 27 ⟨[u]⟩ [] W fun v _ => v = strV (joinT l) := by
  obtain ⟨A, c, rfl, _, _⟩ := h.form
  have hl1 := hb.1
  refine pureNX hmix Try.func27 r27 (by kernel_rfl) [nilO 9 1] rfl [.slice A l.length c] rfl ?_
  refine ⟨Nat × Value, fun t => [(3, .v t.2), (8, .v (.int .i64 t.1))], fun _ => [], fun t => [⟨t.2, 9, 1, t.1, (l.take t.1).map fun x => strV x.txt⟩],
    fun t _ => t.1 ≤ l.length ∧ ∃ A c, t.2 = .slice A t.1 c, fun t => l.length - t.1, (0, .slice none 0 0),
    all_sl ⟨rfl, rfl, trivial⟩, rfl, ole_refl _, ⟨Nat.zero_le _, none, 0, rfl⟩, loopOK (fun _ => ⟨⟨trivial, rfl⟩, ⟨trivial, rfl⟩, trivial⟩) (fun _ => rfl) (fun _ => rfl), ?_⟩
  rintro ⟨i, u⟩ W1 l1 ⟨hi, A1, c1, hu⟩ f
  dsimp only at hi hu
  subst hu
  refine ⟨rfl, br_split (fun hq => ?_) (fun hq => ?_)⟩
  · have hq : (i : Int) < l.length := hq
    obtain ⟨pc, rfl, x, hx, _, _, hrc⟩ := h.at (sz := 3) (tokC_len _) l1 (j := i) ⟨by omega, hq⟩
    have hx : l[i]? = some x := hx
    have htk : l.take (i + 1) = l.take i ++ [x] := by rw [List.take_add_one, hx]; rfl
    have hxl := hb.2 x (List.mem_of_getElem? hx)
    have hmax : (20000 : Nat) ≤ maxLen := by decide
    refine ⟨⟨by omega, hq⟩, pc, rfl, tokC n x, rfl, hrc.o, rfl, br_split (fun hk => ?k) (fun hk => ?m)⟩
    case' k =>
      have hk : (x.k : Int) = 2 := hk
      have ht : x.txt = ([34] ++ x.t) ++ [34] := by unfold Tok.txt; rw [if_pos (by omega)]; simp
      refine ⟨by show (1 : Int) + x.t.length ≤ 9223372036854775807; omega, by show ((34 :: x.t).length : Int) + 1 ≤ 9223372036854775807; simp only [List.length_cons]; omega, ?_⟩
    case' m =>
      have hk : ¬ (x.k : Int) = 2 := hk
      have ht : x.txt = x.t := by unfold Tok.txt; rw [if_neg (by omega)]
    all_goals
      refine ⟨rfl, fun b W5 _ hr => ⟨0, _, [strV _], rfl, rfl, rfl, rfl, rfl, fun u hu => by rw [List.mem_singleton.1 hu]; rfl, fun _ => ⟨_, rfl, hr.o⟩, ?_, ?_, rfl, fun A' c' => ?_⟩⟩
      · show i + 1 ≤ maxLen
        omega
      · show (i + 1) * 16 ≤ 140737488355328; omega
      · refine ⟨rfl, _, (i64_in ((i : Int) + 1) ⟨by omega, by omega⟩).symm, (i + 1, .slice A' (i + 1) c'), all_sl ⟨rfl, rfl, trivial⟩, rfl, ole_eq ?_, ⟨by dsimp only; omega, A', c', rfl⟩, by dsimp only; omega⟩
        show [_] = [_]
        rw [htk, List.map_append, List.map_cons, List.map_nil, ht]
  · have hq : ¬ (i : Int) < l.length := hq
    have hil : i = l.length := by omega
    subst hil
    refine call_ro (fun v => v = strV (joinT l)) ⟨_, Try.func84, by kernel_rfl, by kernel_rfl⟩ (fun ρ w hst => ?_) (fun v W' _ hv => ?_)
    · have ho := (hst.own 0 _ rfl).1
      rw [joinT_lib]
      have hlen := hb.len
      rw [joinT_lib] at hlen
      refine joinlib_x (e := 9) (l.map Tok.txt) [32] _ _ ?_ (by rw [List.length_map]; omega) (by omega)
      have e : (l.take l.length).map (fun x => strV x.txt) = (l.map Tok.txt).map strV := by rw [List.take_length, List.map_map]; rfl
      rw [← e, List.length_map]
      exact ho
    · subst hv
      exact ret_plain rfl fun _ _ => rfl
set_option maxHeartbeats 2000000 in
theorem refjoin_x (l : List Tok) (n : Nat) (u : Value) (hb : TokB l) (W : PW) (h : RP (tokC n) W u l) : CallsX Try.prog 28 ⟨[u]⟩ [] W fun v _ => v = strV (joinT l) := by
  obtain ⟨A, c, rfl, _, _⟩ := h.form
  have hl1 := hb.1
  refine pureX hmix Try.func28 r28 (by kernel_rfl) [.slice A l.length c] rfl ?_
  refine ⟨Nat × List UInt8, fun t => [(3, .v (strV t.2)), (4, .v (.int .i64 t.1))], fun _ => [], fun _ => [],
    fun t _ => t.1 ≤ l.length ∧ t.2 = joinT (l.take t.1), fun t => l.length - t.1, (0, []),
    all_sl ⟨rfl, rfl, trivial⟩, rfl, ole_refl _, ⟨Nat.zero_le _, rfl⟩, loopOK (fun _ => ⟨⟨trivial, rfl⟩, ⟨trivial, rfl⟩, trivial⟩) (fun _ => rfl) (fun _ => rfl), ?_⟩
  rintro ⟨i, p⟩ W1 l1 ⟨hi, hp⟩ f
  dsimp only at hi hp
  have hpl := (hb.take i).len
  rw [← hp] at hpl
  refine ⟨rfl, br_split (fun hq => ?_) (fun hq => ?_)⟩
  · have hq : (i : Int) < l.length := hq
    obtain ⟨pc, rfl, x, hx, hr, hr0, _⟩ := h.at (sz := 3) (tokC_len _) l1 (j := i) ⟨by omega, hq⟩
    have hx : l[i]? = some x := hx
    have htk : l.take (i + 1) = l.take i ++ [x] := by rw [List.take_add_one, hx]; rfl
    have hxl := hb.2 x (List.mem_of_getElem? hx)
    refine ⟨rfl, br_split (fun g => ?g) (fun g => ?z)⟩
    case' g =>
      have g : (0 : Int) < i := g
      have hj : ∀ q, q = p ++ [32] → joinT (l.take (i + 1)) = q ++ x.txt := by
        rintro q rfl
        rw [htk, joinT_snoc]
        cases hc : l.take i with
        | nil =>
          have : (l.take i).length = 0 := by rw [hc]; rfl
          rw [List.length_take] at this; omega
        | cons y r => rw [hp, hc]; simp
      refine ⟨by show (p.length : Int) + 1 ≤ 9223372036854775807; omega, ?_⟩
      have hql : (p ++ [32]).length ≤ 1003001 := by simp; omega
    case' z =>
      have g : ¬ (0 : Int) < i := g
      have hj : ∀ q, q = p → joinT (l.take (i + 1)) = q ++ x.txt := by
        rintro q rfl
        rw [htk, joinT_snoc]
        have : l.take i = [] := by rw [show i = 0 by omega]; rfl
        rw [hp, this]; simp [joinT]
      have hql : p.length ≤ 1003001 := by omega
    all_goals
      refine ⟨⟨by omega, hq⟩, pc, rfl, .int .i64 x.k, (hr 0 (.int .i64 x.k) rfl).o, rfl, br_split (fun hk => ?_) (fun hk => ?_)⟩
      · have hk : (x.k : Int) = 2 := hk
        have ht : x.txt = 34 :: (x.t ++ [34]) := by unfold Tok.txt; rw [if_pos (by omega)]
        have c1 := cat_n' hql (b := [34]) (m := 1) (Nat.le_refl _)
        have c2 := cat_n' c1 hxl
        refine ⟨cat_le' hql (m := 1) (Nat.le_refl _) (by decide), ⟨by omega, hq⟩, pc, rfl, strV x.t, (hr 1 (strV x.t) rfl).o, cat_le' c1 hxl (by decide), cat_le' c2 (m := 1) (Nat.le_refl _) (by decide), ?_⟩
        refine ⟨rfl, _, (i64_in ((i : Int) + 1) ⟨by omega, by omega⟩).symm, (i + 1, _), all_sl ⟨rfl, rfl, trivial⟩, rfl, ole_refl _, ⟨by dsimp only; omega, ?_⟩, by dsimp only; omega⟩
        dsimp only
        rw [hj _ rfl, ht]; simp
      · have hk : ¬ (x.k : Int) = 2 := hk
        have ht : x.txt = x.t := by unfold Tok.txt; rw [if_neg (by omega)]
        refine ⟨⟨by omega, hq⟩, pc, rfl, strV x.t, (hr 1 (strV x.t) rfl).o, cat_le' hql hxl (by decide), ?_⟩
        refine ⟨rfl, _, (i64_in ((i : Int) + 1) ⟨by omega, by omega⟩).symm, (i + 1, _), all_sl ⟨rfl, rfl, trivial⟩, rfl, ole_refl _, ⟨by dsimp only; omega, ?_⟩, by dsimp only; omega⟩
        dsimp only
        rw [hj _ rfl, ht]
  · have hq : ¬ (i : Int) < l.length := hq
    refine ret_plain rfl fun _ _ => ?_
    rw [hp, List.take_of_length_le (by omega)]
theorem lexsame_x (l : List Tok) (n : Nat) (u v : Value) (W : PW) (hl : l.length ≤ 100000) (h : RP (tokC n) W u l) (h' : RP (tokC n) W v l) : CallsX Try.prog 26 ⟨[u, v]⟩ [] W fun v _ => v = .bool true := by
  obtain ⟨A, c, rfl, _, _⟩ := h.form
  obtain ⟨A', c', rfl, _, _⟩ := h'.form
  refine pureX hmix Try.func26 r26 (by kernel_rfl) [.slice A l.length c, .slice A' l.length c'] rfl ?_
  refine ⟨rfl, br_nsplit (fun h => absurd rfl h) (fun _ => ?_)⟩
  refine ⟨Nat, fun i => [(5, .v (.int .i64 i))], fun _ => [], fun _ => [], fun i _ => i ≤ l.length, fun i => l.length - i, 0,
    all_sl ⟨rfl, trivial⟩, rfl, ole_refl _, Nat.zero_le _, loopOK (fun _ => ⟨⟨trivial, rfl⟩, trivial⟩) (fun _ => rfl) (fun _ => rfl), ?_⟩
  rintro i W1 l1 hi f
  refine ⟨rfl, br_split (fun hq => ?_) (fun hq => ?_)⟩
  · have hq : (i : Int) < l.length := hq
    obtain ⟨p, rfl, x, hx, hr, _, _⟩ := h.at (sz := 3) (tokC_len _) l1 (j := i) ⟨by omega, hq⟩
    obtain ⟨p', rfl, x', hx', hr', _, _⟩ := h'.at (sz := 3) (tokC_len _) l1 (j := i) ⟨by omega, hq⟩
    obtain rfl : x = x' := Option.some.inj (hx.symm.trans hx')
    refine ⟨⟨by omega, hq⟩, p, rfl, .int .i64 x.k, (hr 0 (.int .i64 x.k) rfl).o, ⟨by omega, hq⟩, p', rfl, .int .i64 x.k, (hr' 0 (.int .i64 x.k) rfl).o, rfl, br_nsplit (fun h => absurd rfl h) (fun _ => ?_)⟩
    refine ⟨⟨by omega, hq⟩, p, rfl, strV x.t, (hr 1 (strV x.t) rfl).o, ⟨by omega, hq⟩, p', rfl, strV x.t, (hr' 1 (strV x.t) rfl).o, br_nsplit (fun h => absurd rfl h) (fun _ => ?_)⟩
    refine ⟨⟨by omega, hq⟩, p, rfl, .int .i64 ((n : Int) - x.r), (hr 2 (.int .i64 ((n : Int) - x.r)) rfl).o, ⟨by omega, hq⟩, p', rfl, .int .i64 ((n : Int) - x.r), (hr' 2 (.int .i64 ((n : Int) - x.r)) rfl).o, rfl, br_nsplit (fun h => absurd rfl h) (fun _ => ?_)⟩
    exact ⟨rfl, _, (i64_in ((i : Int) + 1) ⟨by omega, by omega⟩).symm, i + 1, all_sl ⟨rfl, trivial⟩, rfl, ole_refl _, by omega, by dsimp only; omega⟩
  · exact ret_plain rfl fun _ _ => rfl
end Go.Proofs.Ytcgbcbdgjhnlaaa
