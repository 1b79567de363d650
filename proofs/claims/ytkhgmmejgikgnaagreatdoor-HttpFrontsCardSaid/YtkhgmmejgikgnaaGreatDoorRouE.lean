/- route.Basic and http.Header, walked; the values of a name in a form. -/
import Derived.Test.YtkhgmmejgikgnaaGreatDoorRouD
import Derived.Test.YtkhgmmejgikgnaaGreatDoorCodeZ
import Derived.Test.YtkhgmmejgikgnaaGreatDoorQueF
namespace Go.Proofs.YtkhgmmejgikgnaaGreatDoor
open Go.RowKit

theorem cut_hit {c : UInt8} {a : List UInt8} (b : List UInt8) (h : c ∉ a) : Lib.cut (a ++ c :: b) [c] = (a, b, true) := by
  obtain ⟨h1, h2⟩ := cut_is c (a ++ c :: b)
  rw [cutW_app b h] at h1 h2
  have h3 : (Lib.cut (a ++ c :: b) [c]).2.2 = true := by
    unfold Lib.cut
    rw [Lib.index_one]
    rcases idx_cases c (a ++ c :: b) with ⟨_, hn⟩ | ⟨o, ho, _, _⟩
    · exact absurd (List.mem_append_right _ (List.mem_cons_self ..)) hn
    · rw [ho, if_pos (by omega)]
  exact Prod.ext h1 (Prod.ext h2 h3)
theorem cuthit_x {c : UInt8} (a b : List UInt8) (h : c ∉ a) (hl : a.length + b.length ≤ 1000000) (W : PW) (hM : HM W) : CallsX Tryz.prog 25 ⟨[strV (a ++ c :: b), strV [c]]⟩ [] W fun v _ => v = .tuple ⟨[strV a, strV b, .bool true]⟩ := by
  obtain ⟨m, _, hm⟩ := hM
  have hsz : (⟨⟨a ++ c :: b⟩⟩ : ByteArray).size = a.length + (b.length + 1) := by show (a ++ c :: b).length = _; simp
  refine CallsX.of_below ⟨_, Tryz.func25, by kernel_rfl, by kernel_rfl⟩ ((Tryz.strings_Cut ⟨⟨a ++ c :: b⟩⟩ ⟨⟨[c]⟩⟩ m W.w (by rw [hsz]; omega) hm).mono fun e w' ⟨he, n, hw⟩ => ⟨_, he, ?_, ?_⟩)
  · subst hw
    exact ⟨rfl, rfl, rfl, Nat.le_refl _, fun _ _ => rfl⟩
  · show Value.tuple #[.string ⟨(Lib.cut (a ++ c :: b) [c]).1.toArray⟩, .string ⟨(Lib.cut (a ++ c :: b) [c]).2.1.toArray⟩, .bool (Lib.cut (a ++ c :: b) [c]).2.2] = _
    rw [cut_hit b h]; rfl
def basicP : List UInt8 := [66, 97, 115, 105, 99, 32]
theorem pref_is (l : List UInt8) : Lib.hasPrefix (basicP ++ l) basicP = true := by
  unfold Lib.hasPrefix
  rw [List.isPrefixOf_iff_prefix]
  exact List.prefix_append ..
theorem esc_no58 : ∀ s : List UInt8, (58 : UInt8) ∉ escS s
  | [] => by simp [escS]
  | c :: r => by
    have h := esc_no58 r
    have hc : ∀ c : UInt8, (58 : UInt8) ∉ escC c := fun c => byte_all (p := fun c => (58 : UInt8) ∉ escC c) (by decide +kernel) c
    simp only [escS, List.mem_append, not_or]
    exact ⟨hc c, h⟩

def credS (name secret : List UInt8) : List UInt8 := basicP ++ encS (escS name ++ 58 :: escS secret)
/-! ## Headers, forms -/
def hdrF (l : List PairS) (name : List UInt8) : List UInt8 × Nat := l.foldl (getF name) ([], 0)
def hdrS (l : List PairS) (name : List UInt8) : List UInt8 × Bool := if (hdrF l name).2 = 1 then ((hdrF l name).1, true) else ([], false)
def reqC (m p : List UInt8) (q h b : Value) : List Value := [strV m, strV p, q, h, b]
set_option maxHeartbeats 4000000 in
theorem count_x (l : List PairS) (name m p : List UInt8) (hl : l.length ≤ 1000000) (q u b : Value) (g : Nat) (W : PW) (hg : Rds W ⟨g, 0, none⟩ (reqC m p q u b)) (h : RP pairC W u l) :
    CallsX Tryz.prog 32 ⟨[.pointer (some ⟨g, 0, none⟩), strV name]⟩ [] W fun v _ => v = .int .i64 ((hdrF l name).2 : Nat) := by
  obtain ⟨a1, c1, rfl, _, _⟩ := h.form
  refine pureX hmix Tryz.func32 r32 (by kernel_rfl) [.pointer (some ⟨g, 0, none⟩), strV name] rfl ?_
  refine ⟨_, (hg 3 _ rfl).o, ?_⟩
  refine ⟨Nat × List UInt8 × Nat, fun t => [(13, .v (.int .i64 t.1)), (5, .v (.int .i64 t.2.2))], fun _ => [], fun _ => [], fun t _ => t.1 ≤ l.length ∧ t.2.2 ≤ t.1 ∧ (l.take t.1).foldl (getF name) ([], 0) = t.2, fun t => l.length - t.1, (0, [], 0),
    all_sl ⟨rfl, rfl, trivial⟩, rfl, ole_refl _, ⟨Nat.zero_le _, Nat.le_refl _, rfl⟩, loopOK (fun _ => ⟨⟨trivial, rfl⟩, ⟨trivial, rfl⟩, trivial⟩) (fun _ => rfl) (fun _ => rfl), ?_⟩
  rintro ⟨i, val, n⟩ W5 l5 ⟨hi, hn, hI⟩ fr
  dsimp only at hi hn hI
  refine ⟨rfl, br_split (fun hq => ?_) (fun hq => ?_)⟩
  · have hq : (i : Int) < l.length := hq
    obtain ⟨p1, rfl, x, hx, _, _, hr1⟩ := h.at (sz := 2) (fun _ => rfl) l5 (j := i) ⟨by omega, hq⟩
    have hst := foldl_step name (show l[i]? = some x from hx)
    rw [hI] at hst
    have inc := (i64_in ((i : Int) + 1) ⟨by omega, by omega⟩).symm
    refine ⟨⟨by omega, hq⟩, p1, rfl, pairC x, rfl, hr1.o, br_split (fun he => ?_) (fun he => ?_)⟩
    · have he : x.name = name := he
      unfold getF at hst
      rw [if_pos he] at hst
      exact ⟨rfl, ((n + 1 : Nat) : Int), (show ((n + 1 : Nat) : Int) = IntKind.i64.wrap ((n : Int) + 1) by rw [i64_in _ ⟨by omega, by omega⟩]; omega), rfl, _, inc, (i + 1, x.value, n + 1), all_sl ⟨rfl, rfl, trivial⟩, rfl, ole_refl _, ⟨by dsimp only; omega, by dsimp only; omega, hst⟩, by dsimp only; omega⟩
    · have he : ¬ x.name = name := he
      unfold getF at hst
      rw [if_neg he] at hst
      exact ⟨rfl, _, inc, (i + 1, val, n), all_sl ⟨rfl, rfl, trivial⟩, rfl, ole_refl _, ⟨by dsimp only; omega, by dsimp only; omega, hst⟩, by dsimp only; omega⟩
  · have hq : ¬ (i : Int) < l.length := hq
    rw [List.take_of_length_le (by omega)] at hI
    exact ret_plain rfl fun _ _ => by unfold hdrF; rw [hI]
set_option maxHeartbeats 4000000 in
theorem header_x (l : List PairS) (name m p : List UInt8) (hl : l.length ≤ 1000000) (q u b : Value) (W : PW) (h : RP pairC W u l) :
    CallsX Tryz.prog 33 ⟨[.agg ⟨reqC m p q u b⟩, strV name]⟩ [] W fun v _ => v = .tuple ⟨[strV (hdrS l name).1, .bool (hdrS l name).2]⟩ := by
  obtain ⟨a1, c1, rfl, _, _⟩ := h.form
  refine pureX hmix Tryz.func33 r33 (by kernel_rfl) [.agg ⟨reqC m p q (.slice a1 l.length c1) b⟩, strV name] rfl ?_
  refine ⟨Nat × List UInt8 × Nat, fun t => [(12, .v (.int .i64 t.1)), (6, .v (strV t.2.1))], fun _ => [(reqC m p q (.slice a1 l.length c1) b).map .v], fun _ => [], fun t _ => t.1 ≤ l.length ∧ t.2.2 ≤ t.1 ∧ (l.take t.1).foldl (getF name) ([], 0) = t.2, fun t => l.length - t.1, (0, [], 0),
    all_sl ⟨rfl, rfl, trivial⟩, rfl, ole_refl _, ⟨Nat.zero_le _, Nat.le_refl _, rfl⟩, loopOK (fun _ => ⟨⟨trivial, rfl⟩, ⟨trivial, rfl⟩, trivial⟩) (fun _ => rfl) (fun _ => rfl), ?_⟩
  rintro ⟨i, val, n⟩ W5 l5 ⟨hi, hn, hI⟩ fr
  dsimp only at hi hn hI
  refine ⟨rfl, br_split (fun hq => ?_) (fun hq => ?_)⟩
  · have hq : (i : Int) < l.length := hq
    obtain ⟨p1, rfl, x, hx, _, _, hr1⟩ := h.at (sz := 2) (fun _ => rfl) l5 (j := i) ⟨by omega, hq⟩
    have hst := foldl_step name (show l[i]? = some x from hx)
    rw [hI] at hst
    have inc := (i64_in ((i : Int) + 1) ⟨by omega, by omega⟩).symm
    refine ⟨⟨by omega, hq⟩, p1, rfl, pairC x, rfl, hr1.o, br_split (fun he => ?_) (fun he => ?_)⟩
    · have he : x.name = name := he
      unfold getF at hst
      rw [if_pos he] at hst
      exact ⟨rfl, _, inc, (i + 1, x.value, n + 1), all_sl ⟨rfl, rfl, trivial⟩, rfl, ole_refl _, ⟨by dsimp only; omega, by dsimp only; omega, hst⟩, by dsimp only; omega⟩
    · have he : ¬ x.name = name := he
      unfold getF at hst
      rw [if_neg he] at hst
      exact ⟨rfl, _, inc, (i + 1, val, n), all_sl ⟨rfl, rfl, trivial⟩, rfl, ole_refl _, ⟨by dsimp only; omega, by dsimp only; omega, hst⟩, by dsimp only; omega⟩
  · have hq : ¬ (i : Int) < l.length := hq
    rw [List.take_of_length_le (by omega)] at hI
    have hF : hdrF l name = (val, n) := hI
    refine call_ro (fun v => v = .int .i64 (n : Nat)) k32 (fun ρ w hst => ?_) (fun v W' _ hv => ?_)
    · have hv := hst.var_all (k := 0) (vs := reqC m p q (.slice a1 l.length c1) b) rfl rfl
      have := count_x l name m p hl q _ b (ρ 0) (PW.all w) hv ((h.mono l5).mono hst.le_all)
      rw [hF] at this
      exact this
    subst hv
    unfold hdrS
    rw [hF]
    refine ⟨rfl, br_nsplit (fun h1 => ?_) (fun h1 => ?_)⟩
    · have h1 : ¬ (n : Int) = 1 := h1
      exact ret_plain rfl fun _ _ => by rw [if_neg (by dsimp only; omega)]; rfl
    · have h1 : (n : Int) = 1 := h1
      exact ret_plain rfl fun _ _ => by rw [if_pos (by dsimp only; omega)]

def valF (name : List UInt8) (p : PairS) : Bool := decide (p.name = name)
def valS (l : List PairS) (name : List UInt8) : List (List UInt8) := (l.filter (valF name)).map (·.value)
theorem val_step {l : List PairS} {i : Nat} {x : PairS} (name : List UInt8) (h : l[i]? = some x) : valS (l.take (i + 1)) name = valS (l.take i) name ++ (if x.name = name then [x.value] else []) := by
  unfold valS
  rw [List.take_add_one, h, Option.toList_some, List.filter_append, List.map_append]
  congr 1
  unfold valF
  by_cases hx : x.name = name
  · simp [hx]
  · simp [hx]
theorem val_len (l : List PairS) (name : List UInt8) (i : Nat) : (valS (l.take i) name).length ≤ i := by
  unfold valS
  rw [List.length_map]
  exact Nat.le_trans (List.length_filter_le _ _) (by rw [List.length_take]; omega)
structure VSt where
  i : Nat
  A : Option Addr
  c : Nat
  out : List (List UInt8)
end Go.Proofs.YtkhgmmejgikgnaaGreatDoor
