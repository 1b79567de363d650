/- The statements LexRemarks and LexBig, walked. -/
import Derived.Test.YtcgbcbdgjhnlaaaLexU
import Derived.Test.YtcgbcbdgjhnlaaaRefW
namespace Go.Proofs.Ytcgbcbdgjhnlaaa
open Go.RowKit

theorem lexlives_x (W : PW) : CallsX Try.prog 23 ⟨[]⟩ [] W fun v _ => v = .bool true := by
  refine pureX hmix Try.func23 r23 (by kernel_rfl) [] rfl ?_
  have e : lexA [97, 45, 62, 98] = ([⟨1, [97], 4⟩, ⟨3, [45, 62], 3⟩, ⟨1, [98], 1⟩], 0) := by rfl
  refine call_v rfl (fun W' _ => lex_x [97, 45, 62, 98] W') (fun W2 v W3 _ _ hv => ?_)
  rw [e] at hv
  obtain ⟨u, rfl, hu⟩ := hv
  obtain ⟨A, c, rfl, _, _⟩ := hu.form
  refine ⟨_, rfl, _, rfl, rfl, rfl, ⟨by decide, by decide⟩, ?_⟩
  obtain ⟨a, rfl, x, hx, hr, _, _⟩ := hu.at (sz := 3) (fun _ => rfl) (PW.Le.refl _) (j := 1) ⟨by decide, by decide⟩
  have hx : some (⟨3, [45, 62], 3⟩ : Tok) = some x := hx
  simp only [Option.some.injEq] at hx
  subst hx
  refine ⟨a, rfl, _, (hr 1 _ rfl).o, ?_⟩
  exact ret_plain rfl fun _ _ => rfl

theorem lex_blanks : ∀ n m : Nat, 0 < m → lexF m (List.replicate n 32) = some []
  | n, 0, h => by omega
  | n, m + 1, _ => by
    have : ∀ n : Nat, skipM false (List.replicate n 32) = [] := by
      intro n
      induction n with
      | zero => rfl
      | succ n ih => rw [List.replicate_succ, skip_blank b32, ih]
    simp only [lexF, this]
theorem lex_a (n : Nat) : lexS (97 :: List.replicate n 32) = some [⟨1, [97], n + 1⟩] := by
  have h1 : skipM false (97 :: List.replicate n 32) = 97 :: List.replicate n 32 := skip_head (by decide) (by decide)
  have h2 : tokS 97 (List.replicate n 32) = some (1, [97], List.replicate n 32) := by
    have ht : (List.replicate n (32 : UInt8)).takeWhile nameB = [] := by
      cases n with
      | zero => rfl
      | succ n => rw [List.replicate_succ, List.takeWhile_cons]; rfl
    have hd : (List.replicate n (32 : UInt8)).dropWhile nameB = List.replicate n 32 := by
      cases n with
      | zero => rfl
      | succ n => rw [List.replicate_succ, List.dropWhile_cons]; rfl
    unfold tokS
    rw [if_pos (by decide), ht, hd]
  unfold lexS
  simp only [lexF, h1, h2, lex_blanks n _ (show 0 < (97 :: List.replicate n (32 : UInt8)).length by simp)]
  simp
theorem flat_one_one (n : Nat) (x : Value) : (List.replicate n [x]).flatten = List.replicate n x := by
  induction n with
  | zero => rfl
  | succ n ih => rw [List.replicate_succ, List.flatten_cons, ih]; rfl
theorem big_x (x : Int) (W : PW) : CallsX Try.prog 4 ⟨[.int .i64 x]⟩ [] W fun v _ => v = .bool true := by
  refine pureX hmix Try.func4 r4 (by kernel_rfl) [.int .i64 x] rfl ?_
  refine call_v rfl (fun W' _ => within_x x 16381 16387 W') (fun W2 v W3 _ _ hv => ?_)
  obtain ⟨n, h1, h2, rfl⟩ : ∃ n : Nat, 16381 ≤ n ∧ n ≤ 16387 ∧ v = .int .i64 n := by
    refine ⟨(if x < 16381 then 16381 else if 16387 < x then 16387 else x).toNat, by split <;> (try split) <;> omega, by split <;> (try split) <;> omega, ?_⟩
    rw [hv]; congr 1; split <;> (try split) <;> omega
  have hmax : (20000 : Nat) ≤ maxLen := by decide
  refine ⟨⟨by omega, by omega, by omega, by omega⟩, fun b => ?_⟩
  refine ⟨Nat, fun i => [(4, .v (.int .i64 i))], fun _ => [], fun i => [⟨.slice (some ⟨b, 0, none⟩) n n, 5, 1, n, List.replicate i (.int .u8 32) ++ List.replicate (n - i) (.int .u8 0)⟩], fun i _ => i ≤ n, fun i => n - i, 0,
    all_sl ⟨rfl, trivial⟩, rfl, ole_eq ?_, Nat.zero_le _, loopOK (fun _ => ⟨⟨trivial, rfl⟩, trivial⟩) (fun _ => rfl) (fun _ => rfl), ?_⟩
  · show [_] = [_]
    simp
  intro i W4 l4 hi f
  refine ⟨rfl, br_split (fun h => ?_) (fun h => ?_)⟩
  · have hi2 : i < n := by omega
    refine ⟨⟨by omega, by omega⟩, _, rfl, ?_⟩
    refine ⟨0, _, _, _, _, i, rfl, rfl, ?_, rfl, ?_, ?_, rfl, rfl, _, (i64_in ((i : Int) + 1) ⟨by omega, by omega⟩).symm, i + 1, all_sl ⟨rfl, trivial⟩, rfl, ole_eq ?_, hi2, by dsimp only; omega⟩
    · show Addr.add _ _ = Addr.add _ _
      simp
    · intro u hu; rw [List.mem_singleton.1 hu]; rfl
    · show i + 1 ≤ _
      simp; omega
    · show [_] = [_]
      congr 2
      rw [List.take_left' (by simp), List.drop_append, List.drop_eq_nil_of_le (by simp), List.nil_append, List.length_replicate, List.drop_replicate, List.replicate_succ', show i + 1 - i = 1 by omega, show n - i - 1 = n - (i + 1) by omega]
  · have hin : i = n := by omega
    refine ⟨⟨by omega, by omega⟩, _, rfl, ?_⟩
    refine ⟨0, _, _, _, _, 0, rfl, rfl, rfl, rfl, ?_, ?_, rfl, ?_⟩
    · intro u hu; rw [List.mem_singleton.1 hu]; rfl
    · show 0 + 1 ≤ _
      simp; omega
    refine ⟨97 :: List.replicate (n - 1) 32, ?_, fun _ => ⟨_, rfl, fun j u hj => .inr ⟨0, _, _, _, _, j, rfl, rfl, rfl, ?_⟩⟩, ?_⟩
    · simp; omega
    · show (List.take 0 _ ++ [.int .u8 97] ++ List.drop (0 + 1) _)[j]? = some u
      rw [← hj, hin]
      simp [byteV]
    refine call_v rfl (fun W' _ => lex_x (97 :: List.replicate (n - 1) 32) W') (fun W5 v W6 _ _ hv => ?_)
    have hle : (97 :: List.replicate (n - 1) (32 : UInt8)).length = n := by simp; omega
    obtain ⟨L, e, hL, hu⟩ : ∃ L e, (if 16384 < n then L = 0 ∧ e = 5 else L = 1 ∧ e = 0) ∧ ∃ A c, v = .tuple ⟨[.slice A L c, .int .i64 e]⟩ := by
      obtain ⟨u, rfl, hu⟩ := hv
      obtain ⟨A, c, rfl, _, _⟩ := hu.form
      refine ⟨_, _, ?_, A, c, rfl⟩
      unfold lexA
      rw [hle, lex_a]
      split <;> exact ⟨rfl, rfl⟩
    obtain ⟨A, c, rfl⟩ := hu
    refine ⟨_, rfl, _, rfl, rfl, rfl, ?_⟩
    by_cases hn : 16384 < n
    · rw [if_pos hn] at hL
      obtain ⟨rfl, rfl⟩ := hL
      refine br_bool (fun hb => ?_) (fun hb => ?_)
      · refine ⟨rfl, rfl, rfl, ?_⟩
        refine call_v rfl (fun W' _ => lexlives_x W') (fun W5 v W6 _ _ hv => ?_)
        subst hv
        exact ret_plain rfl fun _ _ => rfl
      · exfalso
        have : ¬ (n : Int) ≤ 16384 := by omega
        simp [this] at hb
    · rw [if_neg hn] at hL
      obtain ⟨rfl, rfl⟩ := hL
      refine br_bool (fun hb => ?_) (fun hb => ?_)
      · refine ⟨rfl, rfl, ?_⟩
        refine call_v rfl (fun W' _ => lexlives_x W') (fun W5 v W6 _ _ hv => ?_)
        subst hv
        exact ret_plain rfl fun _ _ => rfl
      · exfalso
        have : (n : Int) ≤ 16384 := by omega
        simp [this] at hb
end Go.Proofs.Ytcgbcbdgjhnlaaa
