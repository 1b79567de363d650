/- route.Basic and http.Header, walked; the values of a name in a form. -/
import Derived.Test.YtkhgmmejgikgnaaDoorRouD
import Derived.Test.YtkhgmmejgikgnaaDoorCodeRV
import Derived.Test.YtkhgmmejgikgnaaDoorQueF
namespace Go.Proofs.YtkhgmmejgikgnaaDoor
open Go.RowKit

theorem cut_hit {c : UInt8} {a : List UInt8} (b : List UInt8) (h : c ∉ a) : Lib.cut (a ++ c :: b) [c] = (a, b, true) := by
  obtain ⟨h1, h2⟩ := cut_is c (a ++ c :: b)
  rw [cutW_app b h] at h1 h2
  have h3 : (Lib.cut (a ++ c :: b) [c]).2.2 = true := by
    unfold Lib.cut
    rw [Lib.index_one]
    rcases idx_cases c (a ++ c :: b) with ⟨_, hn⟩ | ⟨o, ho, _, _⟩
    · exact absurd (List.mem_append_right _ (List.mem_cons_self ..)) hn
    · rw [ho, if_pos (by omega)]
  exact Prod.ext h1 (Prod.ext h2 h3)
theorem cuthit_x {c : UInt8} (a b : List UInt8) (h : c ∉ a) (hl : a.length + b.length ≤ 1000000) (W : PW) (hM : HM W) : CallsX Tryd.prog 54 ⟨[strV (a ++ c :: b), strV [c]]⟩ [] W fun v _ => v = .tuple ⟨[strV a, strV b, .bool true]⟩ := by
  obtain ⟨m, _, hm⟩ := hM
  have hsz : (⟨⟨a ++ c :: b⟩⟩ : ByteArray).size = a.length + (b.length + 1) := by show (a ++ c :: b).length = _; simp
  refine CallsX.of_below ⟨_, Tryd.func54, by kernel_rfl, by kernel_rfl⟩ ((Tryd.strings_Cut ⟨⟨a ++ c :: b⟩⟩ ⟨⟨[c]⟩⟩ m W.w (by rw [hsz]; omega) hm).mono fun e w' ⟨he, n, hw⟩ => ⟨_, he, ?_, ?_⟩)
  · subst hw
    exact ⟨rfl, rfl, rfl, Nat.le_refl _, fun _ _ => rfl⟩
  · show Value.tuple #[.string ⟨(Lib.cut (a ++ c :: b) [c]).1.toArray⟩, .string ⟨(Lib.cut (a ++ c :: b) [c]).2.1.toArray⟩, .bool (Lib.cut (a ++ c :: b) [c]).2.2] = _
    rw [cut_hit b h]; rfl
def basicP : List UInt8 := [66, 97, 115, 105, 99, 32]
theorem pref_is (l : List UInt8) : Lib.hasPrefix (basicP ++ l) basicP = true := by
  unfold Lib.hasPrefix
  rw [List.isPrefixOf_iff_prefix]
  exact List.prefix_append ..
theorem prefix_x (l : List UInt8) (W : PW) : CallsX Tryd.prog 78 ⟨[strV (basicP ++ l), strV basicP]⟩ [] W fun v _ => v = .tuple ⟨[strV l, .bool true]⟩ := by
  have hc := Tryd.strings_CutPrefix ⟨⟨basicP ++ l⟩⟩ ⟨⟨basicP⟩⟩ W.w
  have e : Value.tuple #[.string ⟨(Lib.trimPrefix (⟨⟨basicP ++ l⟩⟩ : ByteArray).data.toList (⟨⟨basicP⟩⟩ : ByteArray).data.toList).toArray⟩, .bool (Lib.hasPrefix (⟨⟨basicP ++ l⟩⟩ : ByteArray).data.toList (⟨⟨basicP⟩⟩ : ByteArray).data.toList)] = .tuple ⟨[strV l, .bool true]⟩ := by
    show Value.tuple #[.string ⟨(Lib.trimPrefix (basicP ++ l) basicP).toArray⟩, .bool (Lib.hasPrefix (basicP ++ l) basicP)] = _
    unfold Lib.trimPrefix
    rw [pref_is, if_pos rfl, List.drop_left]; rfl
  rw [e] at hc
  exact CallsX.of_same ⟨_, Tryd.func78, by kernel_rfl, by kernel_rfl⟩ hc
theorem haspre_x (l : List UInt8) (W : PW) : CallsX Tryd.prog 82 ⟨[strV (basicP ++ l), strV basicP]⟩ [] W fun v _ => v = .bool true := by
  have hc := Tryd.strings_HasPrefix ⟨⟨basicP ++ l⟩⟩ ⟨⟨basicP⟩⟩ W.w
  have e : Lib.hasPrefix (⟨⟨basicP ++ l⟩⟩ : ByteArray).data.toList (⟨⟨basicP⟩⟩ : ByteArray).data.toList = true := pref_is l
  rw [e] at hc
  exact CallsX.of_same ⟨_, Tryd.func82, by kernel_rfl, by kernel_rfl⟩ hc
theorem esc_no58 : ∀ s : List UInt8, (58 : UInt8) ∉ escS s
  | [] => by simp [escS]
  | c :: r => by
    have h := esc_no58 r
    have hc : ∀ c : UInt8, (58 : UInt8) ∉ escC c := fun c => byte_all (p := fun c => (58 : UInt8) ∉ escC c) (by decide +kernel) c
    simp only [escS, List.mem_append, not_or]
    exact ⟨hc c, h⟩

def credS (name secret : List UInt8) : List UInt8 := basicP ++ encS (escS name ++ 58 :: escS secret)
theorem basic_x (name secret : List UInt8) (hn : name.length ≤ 1000) (hs : secret.length ≤ 1000) (W : PW) (hM : HM W) (hU : HU W) :
    CallsX Tryd.prog 42 ⟨[strV (credS name secret)]⟩ [] W fun v _ => v = .tuple ⟨[strV name, strV secret, .int .i64 0]⟩ := by
  refine pureX hmix Tryd.func42 r42 (by kernel_rfl) [strV (credS name secret)] rfl ?_
  have h1 := escS_len name
  have h2 := escS_len secret
  have u1 := un_esc false name
  have u2 := un_esc false secret
  have hno := esc_no58 name
  unfold credS
  obtain ⟨a, ha⟩ : ∃ a, escS name = a := ⟨_, rfl⟩
  obtain ⟨b, hb⟩ : ∃ b, escS secret = b := ⟨_, rfl⟩
  rw [ha, hb]
  rw [ha] at h1 u1 hno
  rw [hb] at h2 u2
  refine call_v rfl (fun W' _ => prefix_x (encS (a ++ 58 :: b)) W') (fun W1 v W2 l1 l2 hv => ?_)
  subst hv
  have lA := l1.trans l2
  refine ⟨_, rfl, _, rfl, ?_⟩
  refine call_v rfl (fun W' lw => decode_x (a ++ 58 :: b) (by simp; omega) W' (hU.mono (lA.trans lw))) (fun W3 v W4 l3 l4 hv => ?_)
  subst hv
  have lB := lA.trans (l3.trans l4)
  refine ⟨_, rfl, _, rfl, ?_⟩
  refine call_v rfl (fun W' lw => cuthit_x a b hno (by omega) W' (hM.mono (lB.trans lw))) (fun W5 v W6 l5 l6 hv => ?_)
  subst hv
  refine ⟨_, rfl, _, rfl, _, rfl, ?_⟩
  refine call_v rfl (fun W' _ => unescape_x a false (by omega) W') (fun W7 v W8 l7 l8 hv => ?_)
  rw [u1] at hv
  have hv : v = .tuple ⟨[strV name, .int .i64 0]⟩ := hv
  subst hv
  refine ⟨_, rfl, _, rfl, ?_⟩
  refine call_v rfl (fun W' _ => unescape_x b false (by omega) W') (fun W9 v W10 l9 l10 hv => ?_)
  rw [u2] at hv
  have hv : v = .tuple ⟨[strV secret, .int .i64 0]⟩ := hv
  subst hv
  refine ⟨_, rfl, _, rfl, rfl, rfl, ?_⟩
  exact ret_plain rfl fun _ _ => rfl

/-! ## Headers, forms -/
def hdrF (l : List PairS) (name : List UInt8) : List UInt8 × Nat := l.foldl (getF name) ([], 0)
def hdrS (l : List PairS) (name : List UInt8) : List UInt8 × Bool := if (hdrF l name).2 = 1 then ((hdrF l name).1, true) else ([], false)
def reqC (m p : List UInt8) (q h b : Value) : List Value := [strV m, strV p, q, h, b]
set_option maxHeartbeats 4000000 in
theorem count_x (l : List PairS) (name m p : List UInt8) (hl : l.length ≤ 1000000) (q u b : Value) (g : Nat) (W : PW) (hg : Rds W ⟨g, 0, none⟩ (reqC m p q u b)) (h : RP pairC W u l) :
    CallsX Tryd.prog 106 ⟨[.pointer (some ⟨g, 0, none⟩), strV name]⟩ [] W fun v _ => v = .int .i64 ((hdrF l name).2 : Nat) := by
  obtain ⟨a1, c1, rfl, _, _⟩ := h.form
  refine pureX hmix Tryd.func106 r106 (by kernel_rfl) [.pointer (some ⟨g, 0, none⟩), strV name] rfl ?_
  refine ⟨_, (hg 3 _ rfl).o, ?_⟩
  refine ⟨Nat × List UInt8 × Nat, fun t => [(13, .v (.int .i64 t.1)), (5, .v (.int .i64 t.2.2))], fun _ => [], fun _ => [], fun t _ => t.1 ≤ l.length ∧ t.2.2 ≤ t.1 ∧ (l.take t.1).foldl (getF name) ([], 0) = t.2, fun t => l.length - t.1, (0, [], 0),
    all_sl ⟨rfl, rfl, trivial⟩, rfl, ole_refl _, ⟨Nat.zero_le _, Nat.le_refl _, rfl⟩, loopOK (fun _ => ⟨⟨trivial, rfl⟩, ⟨trivial, rfl⟩, trivial⟩) (fun _ => rfl) (fun _ => rfl), ?_⟩
  rintro ⟨i, val, n⟩ W5 l5 ⟨hi, hn, hI⟩ fr
  dsimp only at hi hn hI
  refine ⟨rfl, br_split (fun hq => ?_) (fun hq => ?_)⟩
  · have hq : (i : Int) < l.length := hq
    obtain ⟨p1, rfl, x, hx, _, _, hr1⟩ := h.at (sz := 2) (fun _ => rfl) l5 (j := i) ⟨by omega, hq⟩
    have hst := foldl_step name (show l[i]? = some x from hx)
    rw [hI] at hst
    have inc := (i64_in ((i : Int) + 1) ⟨by omega, by omega⟩).symm
    refine ⟨⟨by omega, hq⟩, p1, rfl, pairC x, rfl, hr1.o, br_split (fun he => ?_) (fun he => ?_)⟩
    · have he : x.name = name := he
      unfold getF at hst
      rw [if_pos he] at hst
      exact ⟨rfl, ((n + 1 : Nat) : Int), (show ((n + 1 : Nat) : Int) = IntKind.i64.wrap ((n : Int) + 1) by rw [i64_in _ ⟨by omega, by omega⟩]; omega), rfl, _, inc, (i + 1, x.value, n + 1), all_sl ⟨rfl, rfl, trivial⟩, rfl, ole_refl _, ⟨by dsimp only; omega, by dsimp only; omega, hst⟩, by dsimp only; omega⟩
    · have he : ¬ x.name = name := he
      unfold getF at hst
      rw [if_neg he] at hst
      exact ⟨rfl, _, inc, (i + 1, val, n), all_sl ⟨rfl, rfl, trivial⟩, rfl, ole_refl _, ⟨by dsimp only; omega, by dsimp only; omega, hst⟩, by dsimp only; omega⟩
  · have hq : ¬ (i : Int) < l.length := hq
    rw [List.take_of_length_le (by omega)] at hI
    exact ret_plain rfl fun _ _ => by unfold hdrF; rw [hI]
set_option maxHeartbeats 4000000 in
theorem header_x (l : List PairS) (name m p : List UInt8) (hl : l.length ≤ 1000000) (q u b : Value) (W : PW) (h : RP pairC W u l) :
    CallsX Tryd.prog 81 ⟨[.agg ⟨reqC m p q u b⟩, strV name]⟩ [] W fun v _ => v = .tuple ⟨[strV (hdrS l name).1, .bool (hdrS l name).2]⟩ := by
  obtain ⟨a1, c1, rfl, _, _⟩ := h.form
  refine pureX hmix Tryd.func81 r81 (by kernel_rfl) [.agg ⟨reqC m p q (.slice a1 l.length c1) b⟩, strV name] rfl ?_
  refine ⟨Nat × List UInt8 × Nat, fun t => [(12, .v (.int .i64 t.1)), (6, .v (strV t.2.1))], fun _ => [(reqC m p q (.slice a1 l.length c1) b).map .v], fun _ => [], fun t _ => t.1 ≤ l.length ∧ t.2.2 ≤ t.1 ∧ (l.take t.1).foldl (getF name) ([], 0) = t.2, fun t => l.length - t.1, (0, [], 0),
    all_sl ⟨rfl, rfl, trivial⟩, rfl, ole_refl _, ⟨Nat.zero_le _, Nat.le_refl _, rfl⟩, loopOK (fun _ => ⟨⟨trivial, rfl⟩, ⟨trivial, rfl⟩, trivial⟩) (fun _ => rfl) (fun _ => rfl), ?_⟩
  rintro ⟨i, val, n⟩ W5 l5 ⟨hi, hn, hI⟩ fr
  dsimp only at hi hn hI
  refine ⟨rfl, br_split (fun hq => ?_) (fun hq => ?_)⟩
  · have hq : (i : Int) < l.length := hq
    obtain ⟨p1, rfl, x, hx, _, _, hr1⟩ := h.at (sz := 2) (fun _ => rfl) l5 (j := i) ⟨by omega, hq⟩
    have hst := foldl_step name (show l[i]? = some x from hx)
    rw [hI] at hst
    have inc := (i64_in ((i : Int) + 1) ⟨by omega, by omega⟩).symm
    refine ⟨⟨by omega, hq⟩, p1, rfl, pairC x, rfl, hr1.o, br_split (fun he => ?_) (fun he => ?_)⟩
    · have he : x.name = name := he
      unfold getF at hst
      rw [if_pos he] at hst
      exact ⟨rfl, _, inc, (i + 1, x.value, n + 1), all_sl ⟨rfl, rfl, trivial⟩, rfl, ole_refl _, ⟨by dsimp only; omega, by dsimp only; omega, hst⟩, by dsimp only; omega⟩
    · have he : ¬ x.name = name := he
      unfold getF at hst
      rw [if_neg he] at hst
      exact ⟨rfl, _, inc, (i + 1, val, n), all_sl ⟨rfl, rfl, trivial⟩, rfl, ole_refl _, ⟨by dsimp only; omega, by dsimp only; omega, hst⟩, by dsimp only; omega⟩
  · have hq : ¬ (i : Int) < l.length := hq
    rw [List.take_of_length_le (by omega)] at hI
    have hF : hdrF l name = (val, n) := hI
    refine call_ro (fun v => v = .int .i64 (n : Nat)) k106 (fun ρ w hst => ?_) (fun v W' _ hv => ?_)
    · have hv := hst.var_all (k := 0) (vs := reqC m p q (.slice a1 l.length c1) b) rfl rfl
      have := count_x l name m p hl q _ b (ρ 0) (PW.all w) hv ((h.mono l5).mono hst.le_all)
      rw [hF] at this
      exact this
    subst hv
    unfold hdrS
    rw [hF]
    refine ⟨rfl, br_nsplit (fun h1 => ?_) (fun h1 => ?_)⟩
    · have h1 : ¬ (n : Int) = 1 := h1
      exact ret_plain rfl fun _ _ => by rw [if_neg (by dsimp only; omega)]; rfl
    · have h1 : (n : Int) = 1 := h1
      exact ret_plain rfl fun _ _ => by rw [if_pos (by dsimp only; omega)]

def valF (name : List UInt8) (p : PairS) : Bool := decide (p.name = name)
def valS (l : List PairS) (name : List UInt8) : List (List UInt8) := (l.filter (valF name)).map (·.value)
theorem val_step {l : List PairS} {i : Nat} {x : PairS} (name : List UInt8) (h : l[i]? = some x) : valS (l.take (i + 1)) name = valS (l.take i) name ++ (if x.name = name then [x.value] else []) := by
  unfold valS
  rw [List.take_add_one, h, Option.toList_some, List.filter_append, List.map_append]
  congr 1
  unfold valF
  by_cases hx : x.name = name
  · simp [hx]
  · simp [hx]
theorem val_len (l : List PairS) (name : List UInt8) (i : Nat) : (valS (l.take i) name).length ≤ i := by
  unfold valS
  rw [List.length_map]
  exact Nat.le_trans (List.length_filter_le _ _) (by rw [List.length_take]; omega)
structure VSt where
  i : Nat
  A : Option Addr
  c : Nat
  out : List (List UInt8)
set_option maxHeartbeats 4000000 in
theorem values_x (l : List PairS) (name : List UInt8) (hl : l.length ≤ 1000000) (u : Value) (W : PW) (h : RP pairC W u l) : CallsX Tryd.prog 80 ⟨[u, strV name]⟩ [] W fun v W' => RP sC W' v (valS l name) := by
  have hmax : (100000000 : Nat) ≤ maxLen := by decide
  obtain ⟨a1, c1, rfl, _, _⟩ := h.form
  refine pureNX hmix Tryd.func80 r80 (by kernel_rfl) [nilO 9 1] rfl [.slice a1 l.length c1, strV name] rfl ?_
  refine ⟨VSt, fun t => [(10, .v (.int .i64 t.i)), (5, .v (.slice t.A t.out.length t.c))], fun _ => [], fun t => [strO (.slice t.A t.out.length t.c) t.out], fun t _ => t.i ≤ l.length ∧ t.out = valS (l.take t.i) name, fun t => l.length - t.i, ⟨0, none, 0, []⟩,
    all_sl ⟨rfl, rfl, trivial⟩, rfl, ole_refl _, ⟨Nat.zero_le _, rfl⟩, loopOK (fun _ => ⟨⟨trivial, rfl⟩, ⟨trivial, rfl⟩, trivial⟩) (fun _ => rfl) (fun _ => rfl), ?_⟩
  rintro ⟨i, A, c, out⟩ W5 l5 ⟨hi, hout⟩ fr
  dsimp only at hi hout
  have hol : out.length ≤ i := by rw [hout]; exact val_len l name i
  refine ⟨rfl, br_split (fun hq => ?_) (fun hq => ?_)⟩
  · have hq : (i : Int) < l.length := hq
    obtain ⟨p1, rfl, x, hx, _, _, hr1⟩ := h.at (sz := 2) (fun _ => rfl) l5 (j := i) ⟨by omega, hq⟩
    have hst := val_step name (show l[i]? = some x from hx)
    rw [← hout] at hst
    have inc := (i64_in ((i : Int) + 1) ⟨by omega, by omega⟩).symm
    refine ⟨⟨by omega, hq⟩, p1, rfl, pairC x, rfl, hr1.o, br_split (fun he => ?_) (fun he => ?_)⟩
    · have he : x.name = name := he
      rw [if_pos he] at hst
      refine ⟨rfl, .inl fun g W6 l6 hg => ⟨0, _, sC x.value, rfl, rfl, rfl, rfl, rfl, sC_one x.value, fun _ => ⟨_, rfl, hg.o⟩, by show out.length + 1 ≤ _; omega, by show (out.length + 1) * 16 ≤ _; omega, rfl, @fun A1 d1 _ => ?_⟩⟩
      have el : (out ++ [x.value]).length = out.length + 1 := by simp
      refine ⟨rfl, _, inc, ⟨i + 1, A1, d1, out ++ [x.value]⟩, all_sl ⟨rfl, ?_, trivial⟩, rfl, ole_eq ?_, ⟨by dsimp only; omega, hst.symm⟩, by dsimp only; omega⟩
      · dsimp only; rw [el]; rfl
      · dsimp only; unfold strO; rw [el, flat_snoc]; rfl
    · have he : ¬ x.name = name := he
      rw [if_neg he, List.append_nil] at hst
      exact ⟨rfl, _, inc, ⟨i + 1, A, c, out⟩, all_sl ⟨rfl, rfl, trivial⟩, rfl, ole_refl _, ⟨by dsimp only; omega, hst.symm⟩, by dsimp only; omega⟩
  · have hq : ¬ (i : Int) < l.length := hq
    rw [List.take_of_length_le (by omega)] at hout
    refine RetVC.freeze (fun _ hb => hb) (i := 0) rfl fun Wm lm hs0 => ?_
    refine ret_plain rfl fun W' lw => ?_
    rw [← hout]
    exact SlRead.mono hs0 lw
end Go.Proofs.YtkhgmmejgikgnaaDoor
