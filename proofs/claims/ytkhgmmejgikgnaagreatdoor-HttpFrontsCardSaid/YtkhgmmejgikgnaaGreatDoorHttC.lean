/- Requests, walked: texts cut and trimmed; numbers; too much. -/
import Derived.Test.YtkhgmmejgikgnaaGreatDoorHttB
namespace Go.Proofs.YtkhgmmejgikgnaaGreatDoor
open Go.RowKit

theorem splitg_x (s sep : List UInt8) (hsep : sep ≠ []) (hs : s.length ≤ 1000000) (W : PW) (h : HM W) : CallsX Tryz.prog 12 ⟨[strV s, strV sep]⟩ [] W fun v W' => RP sC W' v (Lib.split s sep) := by
  obtain ⟨m, _, hm⟩ := h
  have h1 : 1 ≤ (⟨⟨sep⟩⟩ : ByteArray).size := List.length_pos_iff.2 hsep
  have hsz : (⟨⟨s⟩⟩ : ByteArray).size = s.length := rfl
  have hd : (Lib.splitB ⟨⟨sep⟩⟩ 0 (Lib.countB ⟨⟨s⟩⟩ ⟨⟨sep⟩⟩) ⟨⟨s⟩⟩).map (·.data.toList) = Lib.split s sep := Lib.splitB_data ⟨⟨sep⟩⟩ 0 (Lib.countB ⟨⟨s⟩⟩ ⟨⟨sep⟩⟩) ⟨⟨s⟩⟩
  have hlen := Lib.splitB_all ⟨⟨sep⟩⟩ h1 0 (Lib.countB ⟨⟨s⟩⟩ ⟨⟨sep⟩⟩) ⟨⟨s⟩⟩ rfl
  have hn : Lib.countB ⟨⟨s⟩⟩ ⟨⟨sep⟩⟩ + 1 = (Lib.split s sep).length := by rw [← hlen, ← hd, List.length_map]
  have hcs : ((Lib.splitB ⟨⟨sep⟩⟩ 0 (Lib.countB ⟨⟨s⟩⟩ ⟨⟨sep⟩⟩) ⟨⟨s⟩⟩).map Value.string) = ((Lib.split s sep).map sC).flatten := by
    rw [← hd, List.map_map]
    generalize Lib.splitB ⟨⟨sep⟩⟩ 0 (Lib.countB ⟨⟨s⟩⟩ ⟨⟨sep⟩⟩) ⟨⟨s⟩⟩ = l
    induction l with
    | nil => rfl
    | cons a l ih => simp only [List.map_cons, List.flatten_cons, ih]; rfl
  have hcl : Lib.countB ⟨⟨s⟩⟩ ⟨⟨sep⟩⟩ ≤ s.length + 1 := Lib.count_le s sep
  have hmax : (100000000 : Nat) ≤ maxLen := by decide
  have := Tryz.strings_Split ⟨⟨s⟩⟩ ⟨⟨sep⟩⟩ m W.w (by rw [hsz]; omega) hm h1
  have hx : CallsX Tryz.prog 12 ⟨[strV s, strV sep]⟩ [] W fun v W' => SlRead W' v (Lib.countB ⟨⟨s⟩⟩ ⟨⟨sep⟩⟩ + 1) ((Lib.splitB ⟨⟨sep⟩⟩ 0 (Lib.countB ⟨⟨s⟩⟩ ⟨⟨sep⟩⟩) ⟨⟨s⟩⟩).map Value.string) :=
    CallsX.of_new ⟨_, Tryz.func12, by kernel_rfl, by kernel_rfl⟩ (by omega) this
  refine hx.mono fun v W' hr => ?_
  rw [hn, hcs] at hr
  exact hr
theorem split_one (s : List UInt8) (c : UInt8) : Lib.split s [c] = splitL c s := split_is c _ s (by rw [Lib.count_one]; exact Nat.le_refl _)
theorem cutg_x (s : List UInt8) (c : UInt8) (hs : s.length ≤ 1000000) (W : PW) (h : HM W) : CallsX Tryz.prog 25 ⟨[strV s, strV [c]]⟩ [] W fun v _ => v = .tuple ⟨[strV (cutW c s).1, strV (cutW c s).2, .bool (decide (c ∈ s))]⟩ := by
  obtain ⟨m, _, hm⟩ := h
  have hsz : (⟨⟨s⟩⟩ : ByteArray).size = s.length := rfl
  obtain ⟨c1, c2⟩ := cut_is c s
  have c3 : (Lib.cut s [c]).2.2 = decide (c ∈ s) := by
    unfold Lib.cut
    rw [Lib.index_one]
    rcases idx_cases c s with ⟨hi, hn⟩ | ⟨o, ho, hso, _⟩
    · rw [hi, if_neg (by decide), decide_eq_false hn]
    · rw [ho, if_pos (by omega), decide_eq_true (by rw [hso]; exact List.mem_append_right _ (List.mem_cons_self ..))]
  refine CallsX.of_below ⟨_, Tryz.func25, by kernel_rfl, by kernel_rfl⟩ ((Tryz.strings_Cut ⟨⟨s⟩⟩ ⟨⟨[c]⟩⟩ m W.w (by rw [hsz]; omega) hm).mono fun e w' ⟨he, n, hw⟩ => ⟨_, he, ?_, ?_⟩)
  · subst hw
    exact ⟨rfl, rfl, rfl, Nat.le_refl _, fun _ _ => rfl⟩
  · rw [← c1, ← c2, ← c3]; rfl
theorem trimw_x (s : List UInt8) (hs : s.length ≤ 1000000) (W : PW) : CallsX Tryz.prog 31 ⟨[strV s, strV [32, 9]]⟩ [] W fun v _ => v = strV (Lib.trimS s [32, 9]) := by
  have hsz : (⟨⟨s⟩⟩ : ByteArray).size = s.length := rfl
  exact CallsX.of_at ⟨_, Tryz.func31, by kernel_rfl, by kernel_rfl⟩
    (Any.strings_Trim_laid Tryz.lays160 (by kernel_rfl) ⟨⟨s⟩⟩ ⟨⟨[32, 9]⟩⟩ W.w (by rw [hsz]; omega) (by decide) (ascii_of_all (by decide)))
/-- The library's errors stand. -/
def IsErr (v : Value) : Prop := v = .nilIface ∨ ∃ t p, v = .iface t p
def HE (W : PW) : Prop := (∃ v, Rd W ⟨1, 0, none⟩ v ∧ IsErr v) ∧ ∃ v, Rd W ⟨2, 0, none⟩ v ∧ IsErr v
theorem HE.mono {W W' : PW} (h : HE W) (l : W.Le W') : HE W' := by
  obtain ⟨⟨a, h1, h2⟩, b, h3, h4⟩ := h
  exact ⟨⟨a, h1.mono l, h2⟩, b, h3.mono l, h4⟩
def AtoiR (v : Value) (s : List UInt8) : Prop :=
  match atoiN s with
  | some n => v = .tuple ⟨[.int .i64 n, .nilIface]⟩
  | none => ∃ n t p, v = .tuple ⟨[.int .i64 n, .iface t p]⟩
theorem bytesWorld_below (w : World) (e : TypeId) (s : ByteArray) : Below w.heap.size w (Lib.bytesWorld w e s) :=
  ⟨rfl, rfl, rfl, by rw [Lib.bytesWorld_size]; exact Nat.le_succ _, fun k hk => Lib.bytesWorld_at_old w _ s k hk⟩
theorem atoi_x (s : List UInt8) (hs : s.length ≤ 1000000) (W : PW) (h : HE W) : CallsX Tryz.prog 34 ⟨[strV s]⟩ [] W fun v _ => AtoiR v s := by
  have hcall : Callable Tryz.prog 34 := ⟨_, Tryz.func34, by kernel_rfl, by kernel_rfl⟩
  have hsz : (⟨⟨s⟩⟩ : ByteArray).size = s.length := rfl
  obtain ⟨⟨a, h1, h2⟩, b, h3, h4⟩ := h
  unfold AtoiR atoiN
  cases ha : Lib.atoiAll s with
  | ok n =>
    dsimp only
    refine CallsX.of_below hcall ((Tryz.strconv_Atoi_ok ⟨⟨s⟩⟩ (by rw [hsz]; omega) n ha W.w).mono fun e w' ⟨he, hw⟩ => ⟨_, he, ?_, rfl⟩)
    rcases hw with rfl | ⟨t, rfl⟩
    · exact Below.refl _ _
    · exact bytesWorld_below _ _ _
  | range =>
    dsimp only
    exact CallsX.of_below hcall ((Tryz.strconv_Atoi_range ⟨⟨s⟩⟩ (by rw [hsz]; omega) ha b W.w h3.2 h4).mono fun e w' ⟨N, he, _, _, hb⟩ => ⟨_, he, hb, _, _, _, rfl⟩)
  | _ =>
    dsimp only
    exact CallsX.of_below hcall ((Tryz.strconv_Atoi_syntax ⟨⟨s⟩⟩ (by rw [hsz]; omega) ha a W.w h1.2 h2).mono fun e w' ⟨N, he, _, _, hb⟩ => ⟨_, he, hb, _, _, _, rfl⟩)
theorem much_x (l : List (List UInt8)) (hl : l.length ≤ 1000000) (u : Value) (W : PW) (h : RP sC W u l) : CallsX Tryz.prog 13 ⟨[u]⟩ [] W fun v _ => v = .bool (muchS l) := by
  obtain ⟨a1, c1, rfl, _, _⟩ := h.form
  refine pureX hmix Tryz.func13 r13 (by kernel_rfl) [.slice a1 l.length c1] rfl ?_
  refine ⟨Nat, fun i => [(7, .v (.int .i64 i))], fun _ => [], fun _ => [], fun i _ => i ≤ l.length ∧ (l.take i).any (fun s => decide (2048 < s.length)) = false, fun i => l.length - i, 0,
    all_sl ⟨rfl, trivial⟩, rfl, ole_refl _, ⟨Nat.zero_le _, rfl⟩, loopOK (fun _ => ⟨⟨trivial, rfl⟩, trivial⟩) (fun _ => rfl) (fun _ => rfl), ?_⟩
  rintro i W5 l5 ⟨hi, hI⟩ fr
  refine ⟨rfl, br_split (fun hq => ?_) (fun hq => ?_)⟩
  · have hq : (i : Int) < l.length := hq
    obtain ⟨p1, rfl, x, hx, _, hr1, _⟩ := h.at (sz := 1) (fun _ => rfl) l5 (j := i) ⟨by omega, hq⟩
    have hx : l[i]? = some x := hx
    have hst : (l.take (i + 1)).any (fun s => decide (2048 < s.length)) = decide (2048 < x.length) := by
      rw [List.take_add_one, hx, Option.toList_some, List.any_append, hI]; simp
    refine ⟨⟨by omega, hq⟩, p1, rfl, strV x, (hr1 (by decide) _ rfl).o, rfl, br_split (fun hb => ?_) (fun hb => ?_)⟩
    · have hb : (2048 : Int) < (x.length : Int) := hb
      refine ret_plain rfl fun _ _ => ?_
      have : l.any (fun s => decide (2048 < s.length)) = true := List.any_eq_true.2 ⟨x, List.mem_of_getElem? hx, decide_eq_true (by omega)⟩
      unfold muchS
      rw [this]; rfl
    · have hb : ¬ (2048 : Int) < (x.length : Int) := hb
      rw [decide_eq_false (by omega)] at hst
      exact ⟨rfl, _, (i64_in ((i : Int) + 1) ⟨by omega, by omega⟩).symm, i + 1, all_sl ⟨rfl, trivial⟩, rfl, ole_refl _, ⟨by omega, hst⟩, by show l.length - (i + 1) < l.length - i; omega⟩
  · have hq : ¬ (i : Int) < l.length := hq
    rw [List.take_of_length_le (by omega)] at hI
    refine ⟨rfl, ret_plain rfl fun _ _ => ?_⟩
    unfold muchS
    rw [hI, Bool.false_or]
    show Value.bool (decide ((33 : Int) < (l.length : Int))) = _
    exact congrArg Value.bool (decide_eq_decide.2 ⟨fun h => by omega, fun h => by omega⟩)
end Go.Proofs.YtkhgmmejgikgnaaGreatDoor
