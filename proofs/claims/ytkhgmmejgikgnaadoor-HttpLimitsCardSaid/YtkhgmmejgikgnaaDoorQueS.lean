/- Layer 5 (query): the library's Split and Cut at one byte. -/
import Derived.Test.YtkhgmmejgikgnaaDoorQueC
import Derived.Test.YtkhgmmejgikgnaaDoorCodeQB
import Derived.Lib.SplitLaws
namespace Go.Proofs.YtkhgmmejgikgnaaDoor
open Go.RowKit

/-! ## Plain -/
theorem cutW_no {c : UInt8} : ∀ {s : List UInt8}, c ∉ s → cutW c s = (s, [])
  | [], _ => rfl
  | x :: r, h => by
    have h1 : ¬ x = c := fun e => h (e ▸ List.mem_cons_self ..)
    have h2 := cutW_no (c := c) (s := r) fun e => h (List.mem_cons_of_mem _ e)
    simp [cutW, h1, h2]
theorem idx_cases (c : UInt8) (s : List UInt8) : (Lib.indexByte s c = -1 ∧ c ∉ s) ∨ ∃ o : Nat, Lib.indexByte s c = o ∧ s = s.take o ++ c :: s.drop (o + 1) ∧ c ∉ s.take o := by
  have hge := Lib.indexByte_ge s c
  by_cases h : Lib.indexByte s c = -1
  · refine .inl ⟨h, fun hm => ?_⟩
    obtain ⟨k, hk⟩ := List.getElem?_of_mem hm
    exact Lib.indexByte_none h k hk
  · obtain ⟨o, ho⟩ : ∃ o : Nat, Lib.indexByte s c = o := ⟨(Lib.indexByte s c).toNat, by omega⟩
    obtain ⟨h1, h2⟩ := Lib.indexByte_some ho
    refine .inr ⟨o, ho, ?_, fun hm => ?_⟩
    · rw [← drop_q h1, List.take_append_drop]
    · obtain ⟨k, hk⟩ := List.getElem?_of_mem hm
      rw [List.getElem?_take] at hk
      split at hk
      · rename_i hlt
        exact h2 k hlt hk
      · cases hk
theorem cut_is (c : UInt8) (s : List UInt8) : (Lib.cut s [c]).1 = (cutW c s).1 ∧ (Lib.cut s [c]).2.1 = (cutW c s).2 := by
  unfold Lib.cut
  rw [Lib.index_one]
  rcases idx_cases c s with ⟨h, hn⟩ | ⟨o, h, hs, hn⟩
  · rw [h, if_neg (by decide), cutW_no hn]; exact ⟨rfl, rfl⟩
  · rw [h, if_pos (by omega)]
    have e := cutW_app (s.drop (o + 1)) hn
    rw [← hs] at e
    rw [e]
    exact ⟨rfl, rfl⟩
theorem split_is (c : UInt8) : ∀ (k : Nat) (s : List UInt8), s.count c ≤ k → Lib.splitK [c] 0 k s = splitL c s
  | 0, s, h => by
    have hn : c ∉ s := fun hm => by have := List.count_pos_iff.2 hm; omega
    rw [splitL_no hn]; rfl
  | k + 1, s, h => by
    unfold Lib.splitK
    rw [Lib.index_one]
    rcases idx_cases c s with ⟨h1, hn⟩ | ⟨o, h1, hs, hn⟩
    · rw [h1, if_pos (by decide), splitL_no hn]
    · rw [h1, if_neg (by simp)]
      have e := splitL_app (s.drop (o + 1)) hn
      rw [← hs] at e
      have hc : s.count c = (s.take o).count c + ((s.drop (o + 1)).count c + 1) := by
        conv => lhs; rw [hs]
        rw [List.count_append, List.count_cons_self]
      rw [e, ← split_is c k (s.drop (o + 1)) (by omega)]
      rfl

/-! ## Called -/
theorem CallsX.of_new {P : Program} {fid : FuncId} {args : Array Value} {W : PW} {n : Nat} {cs : List Value} {ty : TypeId} (hcall : Callable P fid) (hn : n ≤ maxLen)
    (h : Calls P fid args W.w fun e w' => e = .returned (.slice (some ⟨W.w.heap.size, 0, none⟩) n n) ∧ w' = W.w.alloc (.cells ⟨cs⟩ ty)) : CallsX P fid args [] W fun v W' => SlRead W' v n cs := by
  refine ⟨hcall, h.mono fun e w' ⟨he, hw⟩ => ?_⟩
  subst hw
  have hsz : (W.w.alloc (.cells ⟨cs⟩ ty)).heap.size = W.w.heap.size + 1 := by
    show (W.w.heap.push _).size = _
    exact Array.size_push _
  have hold : ∀ b, b < W.w.heap.size → (W.w.alloc (.cells ⟨cs⟩ ty)).heap[b]? = W.w.heap[b]? := fun b hb => by
    show (W.w.heap.push _)[b]? = _
    rw [Array.getElem?_push, if_neg (Nat.ne_of_lt hb)]
  have hA : ∀ b, (W.A b ∨ b = W.w.heap.size) → b < (W.w.alloc (.cells ⟨cs⟩ ty)).heap.size := fun b hb => by
    rw [hsz]
    rcases hb with hb | hb
    · have := W.lt b hb; omega
    · omega
  have hback : ∀ b, (W.A b ∨ b = W.w.heap.size) → W.A b ∨ W.w.heap.size ≤ b := fun b hb => hb.imp id fun h => by omega
  refine ⟨_, ⟨W.w.alloc (.cells ⟨cs⟩ ty), fun b => W.A b ∨ b = W.w.heap.size, hA⟩, he, rfl, ⟨⟨rfl, rfl, rfl, Nat.le_of_lt (by rw [hsz]; exact Nat.lt_succ_self _), fun b hb _ => hold b hb⟩, ⟨Nat.le_of_lt (by show W.w.heap.size < (W.w.alloc (.cells ⟨cs⟩ ty)).heap.size; rw [hsz]; exact Nat.lt_succ_self _), fun _ h => .inl h, fun b hb => hold b (W.lt b hb)⟩, hback⟩, _, _, rfl, Nat.le_refl _, hn, fun _ => ⟨_, rfl, fun j v hj => ⟨.inr (by rw [block_add]), ?_⟩⟩⟩
  rw [add_lit]
  show (W.w.alloc _).cell? _ = _
  simp [World.cell?_alloc_new, hj]
/-- The library's variable holds a number. -/
def HM (W : PW) : Prop := ∃ m : Int, Rd W ⟨2, 0, none⟩ (.int .i64 m)
theorem HM.mono {W W' : PW} (h : HM W) (l : W.Le W') : HM W' := let ⟨m, hm⟩ := h; ⟨m, hm.mono l⟩
def sC (l : List UInt8) : List Value := [strV l]
theorem split_x (s : List UInt8) (hs : s.length ≤ 1000000) (W : PW) (h : HM W) : CallsX Tryd.prog 57 ⟨[strV s, strV [38]]⟩ [] W fun v W' => RP sC W' v (splitL 38 s) := by
  obtain ⟨m, _, hm⟩ := h
  have hsz : (⟨⟨s⟩⟩ : ByteArray).size = s.length := rfl
  have hd := Lib.splitB_data ⟨⟨[38]⟩⟩ 0 (Lib.countB ⟨⟨s⟩⟩ ⟨⟨[38]⟩⟩) ⟨⟨s⟩⟩
  have hk : Lib.splitK [38] 0 (Lib.countB ⟨⟨s⟩⟩ ⟨⟨[38]⟩⟩) s = splitL 38 s := split_is 38 _ s (by
    show s.count 38 ≤ Lib.count s [38]
    rw [Lib.count_one]; exact Nat.le_refl _)
  have hd : (Lib.splitB ⟨⟨[38]⟩⟩ 0 (Lib.countB ⟨⟨s⟩⟩ ⟨⟨[38]⟩⟩) ⟨⟨s⟩⟩).map (·.data.toList) = splitL 38 s := hd.trans hk
  have hlen := Lib.splitB_all ⟨⟨[38]⟩⟩ (Nat.le_refl _) 0 (Lib.countB ⟨⟨s⟩⟩ ⟨⟨[38]⟩⟩) ⟨⟨s⟩⟩ rfl
  have hn : Lib.countB ⟨⟨s⟩⟩ ⟨⟨[38]⟩⟩ + 1 = (splitL 38 s).length := by rw [← hlen, ← hd, List.length_map]
  have hcs : ((Lib.splitB ⟨⟨[38]⟩⟩ 0 (Lib.countB ⟨⟨s⟩⟩ ⟨⟨[38]⟩⟩) ⟨⟨s⟩⟩).map Value.string) = ((splitL 38 s).map sC).flatten := by
    rw [← hd, List.map_map]
    generalize Lib.splitB ⟨⟨[38]⟩⟩ 0 (Lib.countB ⟨⟨s⟩⟩ ⟨⟨[38]⟩⟩) ⟨⟨s⟩⟩ = l
    induction l with
    | nil => rfl
    | cons a l ih => simp only [List.map_cons, List.flatten_cons, ih]; rfl
  have hcl : Lib.countB ⟨⟨s⟩⟩ ⟨⟨[38]⟩⟩ ≤ s.length := by
    show Lib.count s [38] ≤ _
    rw [Lib.count_one]; exact List.count_le_length
  have hmax : (100000000 : Nat) ≤ maxLen := by decide
  have := Tryd.strings_Split ⟨⟨s⟩⟩ ⟨⟨[38]⟩⟩ m W.w (by rw [hsz]; omega) hm (Nat.le_refl _)
  have hx : CallsX Tryd.prog 57 ⟨[strV s, strV [38]]⟩ [] W fun v W' => SlRead W' v (Lib.countB ⟨⟨s⟩⟩ ⟨⟨[38]⟩⟩ + 1) ((Lib.splitB ⟨⟨[38]⟩⟩ 0 (Lib.countB ⟨⟨s⟩⟩ ⟨⟨[38]⟩⟩) ⟨⟨s⟩⟩).map Value.string) :=
    CallsX.of_new ⟨_, Tryd.func57, by kernel_rfl, by kernel_rfl⟩ (by omega) this
  refine hx.mono fun v W' hr => ?_
  rw [hn, hcs] at hr
  exact hr
theorem cutq_x (s : List UInt8) (hs : s.length ≤ 1000000) (W : PW) (h : HM W) : CallsX Tryd.prog 54 ⟨[strV s, strV [61]]⟩ [] W fun v _ => ∃ b, v = .tuple ⟨[strV (cutW 61 s).1, strV (cutW 61 s).2, .bool b]⟩ := by
  obtain ⟨m, _, hm⟩ := h
  have hsz : (⟨⟨s⟩⟩ : ByteArray).size = s.length := rfl
  obtain ⟨c1, c2⟩ := cut_is 61 s
  refine CallsX.of_below ⟨_, Tryd.func54, by kernel_rfl, by kernel_rfl⟩ ((Tryd.strings_Cut ⟨⟨s⟩⟩ ⟨⟨[61]⟩⟩ m W.w (by rw [hsz]; omega) hm).mono fun e w' ⟨he, n, hw⟩ => ⟨_, he, ?_, (Lib.cut s [61]).2.2, ?_⟩)
  · subst hw
    exact ⟨rfl, rfl, rfl, Nat.le_refl _, fun _ _ => rfl⟩
  · rw [← c1, ← c2]; rfl
end Go.Proofs.YtkhgmmejgikgnaaDoor
