/- Texts of this proof, one behind the other: JsH JsI JsJ JsO RepP JsP JsQ JsN JsU. No statement of the seat is proved here. -/
import Derived.Test.YtkhgmmejgikgnaaDoorGJ
import Derived.Test.YtkhgmmejgikgnaaDoorGC
import Derived.WalkKit
import Derived.Maps.OwnSet
import Derived.Maps.OwnOps
import Derived.Maps.Views
import Derived.StringKeys
import Derived.Test.YtkhgmmejgikgnaaDoorGQ

/- Layer 6 (json), walked: whether keys are distinct (a map of what has been seen). -/
namespace Go.Proofs.YtkhgmmejgikgnaaDoor
open Go.RowKit Go.Maps

def distinctT (ks : List (List UInt8)) : Bool := ks.all Lib.validD && decide ks.Nodup
section
variable {P : Program} {ops : Array Oper} {rest : List Oper} {o : Oper} {a : Act} {Q : Exit → Act → World → Prop}
theorem wpList_look (w : World) (hg : o.guard = none) (m x : Operand) (t : TypeId) (hop : o.op = Op.lookup t m x false) (g : Nat) (s : ByteArray) (v : Value) (hm : a.eval m = .map (some g)) (hx : a.eval x = .string s)
    (hrun : (Instr.lookup t (.map (some g)) (.string s) false).run P w = .ok v w) (hK : wpList P ops Q rest (a.put o.dst v) w) : wpList P ops Q (o :: rest) a w := by
  refine wpList_plain hg fun K' hK' => ?_
  unfold Oper.wp
  simp [execOp, hop, hm, hx, hrun, Result.andThen]
  exact hK' _ _ hK
end
theorem keyed_s : Keyed Tryd.prog 9 := string_keyed Tryd.underlying9
theorem zero_b (w : World) : (zeroValue 4).run Tryd.prog w = .ok (.bool false) w := by kernel_rfl
theorem plain_bool_inv {P : Program} {e : TypeId} {v : Value} {b : Bool} {ps : List MemPlace} (he : P.underlying e = some .bool) (h : plainElem (H := Unit) P e v = some (.lit (.bool b), ps)) : v = .bool b := by
  unfold plainElem at h
  rw [he] at h
  cases v <;> simp_all
theorem key_s (k : List UInt8) (hk : k.length ≤ 1000000) : keyOf Tryd.prog 9 (.string ⟨⟨k⟩⟩) = some (.string k) := WideMaps.keyOf_string_mk Tryd.underlying9 (Nat.le_trans hk (by decide))
/-- A map of what has been seen. -/
def SeenW (w : World) (g n : Nat) (ks : List (List UInt8)) : Prop := ∃ D : DataW Unit, w.ownsMap (H := Unit) Tryd.prog 9 (plainElem Tryd.prog 4) g n D ∧ IsMap D ∧ ∀ k : List UInt8, D.atKey (.string k) (.lit (.bool false)) = .lit (.bool (decide (k ∈ ks)))
theorem seen_look {w : World} {g n : Nat} {ks : List (List UInt8)} (h : SeenW w g n ks) (k : List UInt8) (hk : k.length ≤ 1000000) : (Instr.lookup 190 (.map (some g)) (.string ⟨⟨k⟩⟩) false).run Tryd.prog w = .ok (.bool (decide (k ∈ ks))) w := by
  obtain ⟨D, h, _, hD⟩ := h
  obtain ⟨v, ps, hrun, hv⟩ := h.lookup keyed_s Tryd.underlying190 (zero_b w) (plainElem_bool Tryd.underlying4 false) (key_s k hk : keyOf Tryd.prog 9 (.string ⟨⟨k⟩⟩) = some (.string k))
  rw [hD k] at hv
  rw [hrun, plain_bool_inv Tryd.underlying4 hv]
theorem at_q' {l : List (List UInt8)} {i : Nat} (h : i < l.length) : ∃ x, l[i]? = some x := ⟨l[i], List.getElem?_eq_getElem h⟩
theorem seen_made (w : World) : SeenW (w.alloc (.map #[] 0)) w.heap.size 0 [] := ⟨.map [], World.ownsMap_made (H := Unit) w Tryd.prog 9 (plainElem Tryd.prog 4), isMap_empty, fun _ => rfl⟩
theorem seen_put {D : DataW Unit} {ks : List (List UInt8)} (k : List UInt8) (hm : IsMap D) (hD : ∀ k : List UInt8, D.atKey (.string k) (.lit (.bool false)) = .lit (.bool (decide (k ∈ ks)))) : IsMap (D.put (.string k) (.lit (.bool true))) ∧ ∀ k' : List UInt8, (D.put (.string k) (.lit (.bool true))).atKey (.string k') (.lit (.bool false)) = .lit (.bool (decide (k' ∈ ks ++ [k]))) := by
  refine ⟨hm.put _ _, fun k' => ?_⟩
  by_cases h : k' = k
  · subst h
    rw [atKey_put_same hm (show WideAt.IsKeyLit (.string k') from trivial), decide_eq_true (List.mem_append_right _ (List.mem_singleton.2 rfl))]
  · rw [atKey_put_other (fun e => h (by simpa using e)), hD k', show decide (k' ∈ ks) = decide (k' ∈ ks ++ [k]) by rw [decide_eq_decide]; simp [h]]
theorem distinct_snoc {ks : List (List UInt8)} {k : List UInt8} (h : distinctT ks = true) : distinctT (ks ++ [k]) = (Lib.validD k && decide (k ∉ ks)) := by
  unfold distinctT at h ⊢
  rw [Bool.and_eq_true, decide_eq_true_eq] at h
  obtain ⟨h1, h2⟩ := h
  rw [List.all_append, h1, Bool.true_and, Bool.eq_iff_iff]
  simp only [List.all_cons, List.all_nil, Bool.and_true, Bool.and_eq_true, decide_eq_true_eq, List.nodup_append, h2, true_and]
  simp
  intro _
  constructor
  · intro h he; exact h k he rfl
  · intro h a ha e; exact h (e ▸ ha)
theorem distinct_mono {ks : List (List UInt8)} (n : Nat) (h : distinctT ks = true) : distinctT (ks.take n) = true := by
  unfold distinctT at h ⊢
  rw [Bool.and_eq_true, decide_eq_true_eq] at h ⊢
  exact ⟨List.all_eq_true.2 fun x hx => List.all_eq_true.1 h.1 x (List.mem_of_mem_take hx), h.2.sublist (List.take_sublist _ _)⟩
set_option maxHeartbeats 16000000 in
set_option maxRecDepth 100000 in
theorem distinctRun (keys : List (List UInt8)) (n : Nat) (hn : keys.length = n) (hl : n ≤ 1000000) (hks : ∀ k ∈ keys, k.length ≤ 1000000) (b o c : Nat) (w : World) (hb : b < w.heap.size) (hT : Lib.Utf8Tabs 0 1 w)
    (hc : ∀ (j : Nat) k, keys[j]? = some k → w.cell? ⟨b, o + j, none⟩ = some (.string ⟨⟨k⟩⟩)) : Calls Tryd.prog 133 #[.slice (some ⟨b, o, none⟩) n c] w fun e w' => e = .returned (.bool (distinctT keys)) ∧ Below w.heap.size w w' := by
  have hmm := @run_makeMap Tryd.prog
  have hs0 := seen_made w
  go_enter Tryd.func133, Tryd.ntmps133
  go_wp2
  go_loopw [9] (fun v w' => ∃ i : Nat, v = .int .i64 i ∧ i ≤ n ∧ Below w.heap.size w w' ∧ SeenW w' w.heap.size i (keys.take i) ∧ distinctT (keys.take i) = true) (fun v _ => n - (Go.RowKit.intOf v).toNat)
  case atStart => exact ⟨0, rfl, Nat.zero_le _, (Below.refl _ _).alloc (Nat.le_refl _) _, hs0, by rw [List.take_zero]; (first | done | rfl)⟩
  case round =>
    obtain ⟨i, rfl, hi, hbl, hseen, hd⟩ := hrel
    by_cases hq : i < n
    · have hq1 : (i : Int) < (n : Int) := by omega
      obtain ⟨k, hk⟩ := at_q' (l := keys) (i := i) (by omega)
      have hkl := hks k (List.mem_of_getElem? hk)
      have hcell : wr.cell? ⟨b, o + i, none⟩ = some (.string ⟨⟨k⟩⟩) := by
        rw [← hc i k hk]
        unfold World.cell?
        rw [hbl.block b hb]
      have htk : keys.take (i + 1) = keys.take i ++ [k] := by rw [List.take_add_one, hk]; (first | done | rfl)
      have hL := seen_look hseen k hkl
      have hsn := distinct_snoc (k := k) hd
      have hTr := Utf8Tabs_below hT hbl
      by_cases hm : k ∈ keys.take i
      · rw [decide_eq_true hm] at hL
        have hbad : distinctT keys = false := by
          rw [Bool.eq_false_iff]
          intro h
          have h := distinct_mono (i + 1) h
          rw [htk, hsn, decide_eq_false (fun h => h hm), Bool.and_false] at h
          cases h
        go_wp2_with (at_lookup; refine wpList_look _ rfl _ _ _ rfl _ _ _ rfl rfl hL ?_)
        go_ret
        exact ⟨by rw [hbad]; (first | done | rfl), hbl⟩
      · rw [decide_eq_false hm] at hL
        go_wp2_with (at_lookup; refine wpList_look _ rfl _ _ _ rfl _ _ _ rfl rfl hL ?_)
        refine (Tryd.utf8_ValidString ⟨⟨k⟩⟩ wr (by show k.length ≤ _; omega) hTr).mono fun e w1 ⟨he, hb1⟩ => ?_
        have hs1 := hb1.size
        have hs2 := hbl.size
        have hbl1 : Below w.heap.size w w1 := hbl.trans ⟨hb1.os, hb1.tape, hb1.output, by omega, fun k hk => hb1.block k (by omega)⟩
        obtain ⟨D, hown, hmap, hD⟩ := hseen
        have hg : w.heap.size < wr.heap.size := by
          obtain ⟨es, clock, k1, k2⟩ := hown
          exact heap_lt k1
        have hown1 : w1.ownsMap (H := Unit) Tryd.prog 9 (plainElem Tryd.prog 4) w.heap.size i D := by
          obtain ⟨es, clock, k1, k2⟩ := hown
          exact ⟨es, clock, (hb1.block _ hg).trans k1, k2⟩
        cases hv : Lib.validD k with
        | false =>
          have he : e = .returned (.bool false) := by rw [he]; exact congrArg (fun b => Ending.returned (Value.bool b)) hv
          subst he
          have hbad : distinctT keys = false := by
            rw [Bool.eq_false_iff]
            intro h
            have h := distinct_mono (i + 1) h
            rw [htk, hsn, hv, Bool.false_and] at h
            cases h
          go_wp2
          go_ret
          exact ⟨by rw [hbad]; (first | done | rfl), hbl1⟩
        | true =>
          have he : e = .returned (.bool true) := by rw [he]; exact congrArg (fun b => Ending.returned (Value.bool b)) hv
          subst he
          obtain ⟨n1, n2⟩ := seen_put k hmap hD
          go_wp2_with (at_mapUpdate; refine wpList_mapUpdate_own _ rfl _ _ _ 190 rfl 9 4 keyed_s Tryd.underlying190 (plainElem Tryd.prog 4) w.heap.size i D rfl hown1 (by unfold maxLen; omega) _ _ _ rfl rfl (key_s k hkl) _ [] (plainElem_bool Tryd.underlying4 true) ?_; intro w2 hown2 hgrow2)
          refine ⟨⟨i + 1, rfl, hq, hbl1.grown hgrow2 (by omega) (fun j hj => by cases hj; exact Nat.le_refl _), ⟨_, hown2, n1, ?_⟩, ?_⟩, by show n - (i + 1) < n - i; omega⟩
          · rw [htk]; exact n2
          · rw [htk, hsn, hv, decide_eq_true hm]; (first | done | rfl)
    · have hq1 : ¬ (i : Int) < (n : Int) := by omega
      obtain rfl : i = n := by omega
      go_wp2
      go_ret
      rw [List.take_of_length_le (by omega)] at hd
      exact ⟨by rw [hd]; (first | done | rfl), hbl⟩
set_option maxHeartbeats 4000000 in
set_option maxRecDepth 100000 in
theorem distinctRun0 (A : Option Addr) (c : Nat) (w : World) : Calls Tryd.prog 133 #[.slice A 0 c] w fun e w' => e = .returned (.bool true) ∧ Below w.heap.size w w' := by
  have hmm := @run_makeMap Tryd.prog
  go_enter Tryd.func133, Tryd.ntmps133
  go_wp2
  refine wp_loop_rounds 2 ?_
  rw [rounds_succ]
  go_wp2
  go_ret
  exact ⟨rfl, (Below.refl _ _).alloc (Nat.le_refl _) _⟩
theorem rp_at {keys : List (List UInt8)} {A : Option Addr} {n c : Nat} {W : PW} (h : RP sC W (.slice A n c) keys) (h0 : 0 < keys.length) : ∃ b o, A = some ⟨b, o, none⟩ ∧ W.A b ∧ ∀ (j : Nat) (k : List UInt8), keys[j]? = some k → W.w.cell? ⟨b, o + j, none⟩ = some (.string ⟨⟨k⟩⟩) := by
  obtain ⟨A', c', e, _, _, h3⟩ := h
  simp only [Value.slice.injEq] at e
  obtain ⟨rfl, _, _⟩ := e
  obtain ⟨a, rfl, hr⟩ := h3 h0
  rw [flat_sC] at hr
  obtain ⟨k0, hk0⟩ := at_q' h0
  have h0 := hr 0 (encL k0) (by rw [List.getElem?_map, hk0]; (first | done | rfl))
  obtain ⟨b, o, rfl⟩ : ∃ b o, a = ⟨b, o, none⟩ := by
    obtain ⟨b, o, e⟩ := spot_none h0.2
    unfold Addr.add at e
    obtain ⟨b', o', sp⟩ := a
    cases sp with
    | none => exact ⟨b', o', rfl⟩
    | some x => simp at e
  refine ⟨b, o, rfl, h0.1, fun j k hk => ?_⟩
  have h1 := (hr j (encL k) (by rw [List.getElem?_map, hk]; (first | done | rfl))).2
  rw [add_lit] at h1
  exact h1
theorem distinct_x (keys : List (List UInt8)) (hl : keys.length ≤ 1000000) (hks : ∀ k ∈ keys, k.length ≤ 1000000) (u : Value) (W : PW) (hU : HU W) (h : RP sC W u keys) : CallsX Tryd.prog 133 ⟨[u]⟩ [] W fun v _ => v = .bool (distinctT keys) := by
  obtain ⟨A, c, rfl, _, _⟩ := h.form
  rcases Nat.eq_zero_or_pos keys.length with h0 | h0
  · have e : keys = [] := List.eq_nil_of_length_eq_zero h0
    subst e
    exact CallsX.of_at k133 (distinctRun0 A c W.w)
  · obtain ⟨b, o, rfl, hA, hc⟩ := rp_at h h0
    exact CallsX.of_at k133 (distinctRun keys keys.length rfl hl hks b o c W.w (W.lt _ hA) hU.2.2 hc)
end Go.Proofs.YtkhgmmejgikgnaaDoor

/- Layer 6 (json), walked: whether a value is right. -/
namespace Go.Proofs.YtkhgmmejgikgnaaDoor
open Go.RowKit

def bareB (is nu te li ke b : Bool) (i : Int) (t : List UInt8) (n m : Nat) : Bool := (is || !b) && (nu || decide (i = 0)) && (te || decide (t = [])) && (li || decide ((n : Int) = 0)) && (ke || decide ((m : Int) = 0))
set_option maxHeartbeats 8000000 in
theorem bare0_x (k : Int) (b : Bool) (i : Int) (t : List UInt8) (A : Option Addr) (n c : Nat) (A' : Option Addr) (m c' : Nat) (W : PW) :
    CallsX Tryd.prog 132 ⟨[.agg ⟨[.int .i64 k, .bool b, .int .i64 i, strV t, .slice A n c, .slice A' m c']⟩, .bool false, .bool false, .bool false, .bool false, .bool false]⟩ [] W fun v _ => v = .bool (bareB false false false false false b i t n m) := by
  refine pureX hmix Tryd.func132 r132 (by kernel_rfl) [.agg ⟨[.int .i64 k, .bool b, .int .i64 i, strV t, .slice A n c, .slice A' m c']⟩, .bool false, .bool false, .bool false, .bool false, .bool false] rfl ?_
  cases b with
  | true => exact ret_plain rfl fun _ _ => rfl
  | false =>
    refine ⟨rfl, ?_⟩
    apply br_split
    rotate_left
    · intro e1
      have e1 : ¬ i = 0 := e1
      refine ret_plain rfl fun _ _ => ?_
      unfold bareB; rw [decide_eq_false e1]; simp
    intro e1
    have e1 : i = 0 := e1
    apply br_split
    rotate_left
    · intro e2
      have e2 : ¬ t = [] := e2
      refine ret_plain rfl fun _ _ => ?_
      unfold bareB; rw [decide_eq_false e2]; simp
    intro e2
    have e2 : t = [] := e2
    refine ⟨rfl, ?_⟩
    apply br_split
    rotate_left
    · intro e3
      have e3 : ¬ (n : Int) = 0 := e3
      refine ret_plain rfl fun _ _ => ?_
      unfold bareB; rw [decide_eq_false e3]; simp
    intro e3
    have e3 : (n : Int) = 0 := e3
    refine ⟨rfl, ret_plain rfl fun _ _ => ?_⟩
    unfold bareB; rw [decide_eq_true e1, decide_eq_true e2, decide_eq_true e3]; simp
set_option maxHeartbeats 8000000 in
theorem bare1_x (k : Int) (b : Bool) (i : Int) (t : List UInt8) (A : Option Addr) (n c : Nat) (A' : Option Addr) (m c' : Nat) (W : PW) :
    CallsX Tryd.prog 132 ⟨[.agg ⟨[.int .i64 k, .bool b, .int .i64 i, strV t, .slice A n c, .slice A' m c']⟩, .bool true, .bool false, .bool false, .bool false, .bool false]⟩ [] W fun v _ => v = .bool (bareB true false false false false b i t n m) := by
  refine pureX hmix Tryd.func132 r132 (by kernel_rfl) [.agg ⟨[.int .i64 k, .bool b, .int .i64 i, strV t, .slice A n c, .slice A' m c']⟩, .bool true, .bool false, .bool false, .bool false, .bool false] rfl ?_
  refine ⟨rfl, ?_⟩
  apply br_split
  rotate_left
  · intro e1
    have e1 : ¬ i = 0 := e1
    refine ret_plain rfl fun _ _ => ?_
    unfold bareB; rw [decide_eq_false e1]; simp
  intro e1
  have e1 : i = 0 := e1
  apply br_split
  rotate_left
  · intro e2
    have e2 : ¬ t = [] := e2
    refine ret_plain rfl fun _ _ => ?_
    unfold bareB; rw [decide_eq_false e2]; simp
  intro e2
  have e2 : t = [] := e2
  refine ⟨rfl, ?_⟩
  apply br_split
  rotate_left
  · intro e3
    have e3 : ¬ (n : Int) = 0 := e3
    refine ret_plain rfl fun _ _ => ?_
    unfold bareB; rw [decide_eq_false e3]; simp
  intro e3
  have e3 : (n : Int) = 0 := e3
  refine ⟨rfl, ret_plain rfl fun _ _ => ?_⟩
  unfold bareB; rw [decide_eq_true e1, decide_eq_true e2, decide_eq_true e3]; simp
set_option maxHeartbeats 8000000 in
theorem bare2_x (k : Int) (b : Bool) (i : Int) (t : List UInt8) (A : Option Addr) (n c : Nat) (A' : Option Addr) (m c' : Nat) (W : PW) :
    CallsX Tryd.prog 132 ⟨[.agg ⟨[.int .i64 k, .bool b, .int .i64 i, strV t, .slice A n c, .slice A' m c']⟩, .bool false, .bool true, .bool false, .bool false, .bool false]⟩ [] W fun v _ => v = .bool (bareB false true false false false b i t n m) := by
  refine pureX hmix Tryd.func132 r132 (by kernel_rfl) [.agg ⟨[.int .i64 k, .bool b, .int .i64 i, strV t, .slice A n c, .slice A' m c']⟩, .bool false, .bool true, .bool false, .bool false, .bool false] rfl ?_
  cases b with
  | true => exact ret_plain rfl fun _ _ => rfl
  | false =>
    apply br_split
    rotate_left
    · intro e2
      have e2 : ¬ t = [] := e2
      refine ret_plain rfl fun _ _ => ?_
      unfold bareB; rw [decide_eq_false e2]; simp
    intro e2
    have e2 : t = [] := e2
    refine ⟨rfl, ?_⟩
    apply br_split
    rotate_left
    · intro e3
      have e3 : ¬ (n : Int) = 0 := e3
      refine ret_plain rfl fun _ _ => ?_
      unfold bareB; rw [decide_eq_false e3]; simp
    intro e3
    have e3 : (n : Int) = 0 := e3
    refine ⟨rfl, ret_plain rfl fun _ _ => ?_⟩
    unfold bareB; rw [decide_eq_true e2, decide_eq_true e3]; simp
set_option maxHeartbeats 8000000 in
theorem bare3_x (k : Int) (b : Bool) (i : Int) (t : List UInt8) (A : Option Addr) (n c : Nat) (A' : Option Addr) (m c' : Nat) (W : PW) :
    CallsX Tryd.prog 132 ⟨[.agg ⟨[.int .i64 k, .bool b, .int .i64 i, strV t, .slice A n c, .slice A' m c']⟩, .bool false, .bool false, .bool true, .bool false, .bool false]⟩ [] W fun v _ => v = .bool (bareB false false true false false b i t n m) := by
  refine pureX hmix Tryd.func132 r132 (by kernel_rfl) [.agg ⟨[.int .i64 k, .bool b, .int .i64 i, strV t, .slice A n c, .slice A' m c']⟩, .bool false, .bool false, .bool true, .bool false, .bool false] rfl ?_
  cases b with
  | true => exact ret_plain rfl fun _ _ => rfl
  | false =>
    refine ⟨rfl, ?_⟩
    apply br_split
    rotate_left
    · intro e1
      have e1 : ¬ i = 0 := e1
      refine ret_plain rfl fun _ _ => ?_
      unfold bareB; rw [decide_eq_false e1]; simp
    intro e1
    have e1 : i = 0 := e1
    refine ⟨rfl, ?_⟩
    apply br_split
    rotate_left
    · intro e3
      have e3 : ¬ (n : Int) = 0 := e3
      refine ret_plain rfl fun _ _ => ?_
      unfold bareB; rw [decide_eq_false e3]; simp
    intro e3
    have e3 : (n : Int) = 0 := e3
    refine ⟨rfl, ret_plain rfl fun _ _ => ?_⟩
    unfold bareB; rw [decide_eq_true e1, decide_eq_true e3]; simp
set_option maxHeartbeats 8000000 in
theorem bare4_x (k : Int) (b : Bool) (i : Int) (t : List UInt8) (A : Option Addr) (n c : Nat) (A' : Option Addr) (m c' : Nat) (W : PW) :
    CallsX Tryd.prog 132 ⟨[.agg ⟨[.int .i64 k, .bool b, .int .i64 i, strV t, .slice A n c, .slice A' m c']⟩, .bool false, .bool false, .bool false, .bool true, .bool false]⟩ [] W fun v _ => v = .bool (bareB false false false true false b i t n m) := by
  refine pureX hmix Tryd.func132 r132 (by kernel_rfl) [.agg ⟨[.int .i64 k, .bool b, .int .i64 i, strV t, .slice A n c, .slice A' m c']⟩, .bool false, .bool false, .bool false, .bool true, .bool false] rfl ?_
  cases b with
  | true => exact ret_plain rfl fun _ _ => rfl
  | false =>
    refine ⟨rfl, ?_⟩
    apply br_split
    rotate_left
    · intro e1
      have e1 : ¬ i = 0 := e1
      refine ret_plain rfl fun _ _ => ?_
      unfold bareB; rw [decide_eq_false e1]; simp
    intro e1
    have e1 : i = 0 := e1
    apply br_split
    rotate_left
    · intro e2
      have e2 : ¬ t = [] := e2
      refine ret_plain rfl fun _ _ => ?_
      unfold bareB; rw [decide_eq_false e2]; simp
    intro e2
    have e2 : t = [] := e2
    refine ⟨rfl, ret_plain rfl fun _ _ => ?_⟩
    unfold bareB; rw [decide_eq_true e1, decide_eq_true e2]; simp
set_option maxHeartbeats 8000000 in
theorem bare5_x (k : Int) (b : Bool) (i : Int) (t : List UInt8) (A : Option Addr) (n c : Nat) (A' : Option Addr) (m c' : Nat) (W : PW) :
    CallsX Tryd.prog 132 ⟨[.agg ⟨[.int .i64 k, .bool b, .int .i64 i, strV t, .slice A n c, .slice A' m c']⟩, .bool false, .bool false, .bool false, .bool true, .bool true]⟩ [] W fun v _ => v = .bool (bareB false false false true true b i t n m) := by
  refine pureX hmix Tryd.func132 r132 (by kernel_rfl) [.agg ⟨[.int .i64 k, .bool b, .int .i64 i, strV t, .slice A n c, .slice A' m c']⟩, .bool false, .bool false, .bool false, .bool true, .bool true] rfl ?_
  cases b with
  | true => exact ret_plain rfl fun _ _ => rfl
  | false =>
    refine ⟨rfl, ?_⟩
    apply br_split
    rotate_left
    · intro e1
      have e1 : ¬ i = 0 := e1
      refine ret_plain rfl fun _ _ => ?_
      unfold bareB; rw [decide_eq_false e1]; simp
    intro e1
    have e1 : i = 0 := e1
    apply br_split
    rotate_left
    · intro e2
      have e2 : ¬ t = [] := e2
      refine ret_plain rfl fun _ _ => ?_
      unfold bareB; rw [decide_eq_false e2]; simp
    intro e2
    have e2 : t = [] := e2
    exact ret_plain rfl fun _ _ => by unfold bareB; rw [decide_eq_true e1, decide_eq_true e2]; (first | done | rfl)
def rightT : Nat → JT → Bool
  | 0, _ => false
  | d + 1, .mk k b i t l ks =>
    if k = 0 then bareB false false false false false b i t l.length ks.length
    else if k = 1 then bareB true false false false false b i t l.length ks.length
    else if k = 2 then bareB false true false false false b i t l.length ks.length && (decide (-9007199254740992 ≤ i) && decide (i ≤ 9007199254740992))
    else if k = 3 then bareB false false true false false b i t l.length ks.length && Lib.validD t
    else if k = 4 then bareB false false false true false b i t l.length ks.length && l.all (rightT d)
    else if k = 5 then bareB false false false true true b i t l.length ks.length && decide ((ks.length : Int) = l.length) && distinctT ks && l.all (rightT d)
    else false
/-- Texts, lists of a size that int holds. -/
inductive Sm : JT → Prop where
  | mk {k : Int} {b : Bool} {i : Int} {t : List UInt8} {l : List JT} {ks : List (List UInt8)} (h1 : t.length ≤ 1000000) (h2 : ks.length ≤ 1000000) (h3 : ∀ k ∈ ks, k.length ≤ 1000000) (h4 : l.length ≤ 1000000) (h5 : ∀ x ∈ l, Sm x) : Sm (.mk k b i t l ks)
def RightX (d : Nat) : Prop := ∀ (x : JV) (W : PW), JOK W x → Sm x.er → HU W → CallsX Tryd.prog 89 ⟨[.agg ⟨x.cells⟩, .int .i64 (d : Nat)]⟩ [] W fun v _ => v = .bool (rightT d x.er)
def cloJ (g : Nat) : Value := .func (.func 135) #[] #[.pointer (some ⟨g, 0, none⟩)]
theorem rclo_x (d : Nat) (hd : d ≤ 100) (hR : RightX d) (x : JV) (g : Nat) (W : PW) (h : Rd W ⟨g, 0, none⟩ (.int .i64 ((d + 1 : Nat) : Int))) (hx : JOK W x) (hs : Sm x.er) (hU : HU W) : CallsX Tryd.prog 135 ⟨[.agg ⟨x.cells⟩, .pointer (some ⟨g, 0, none⟩)]⟩ [] W fun v _ => v = .bool (!rightT d x.er) := by
  obtain ⟨z, hz⟩ : ∃ z : Int, z = ((d + 1 : Nat) : Int) := ⟨_, rfl⟩
  rw [← hz] at h
  have hR := hR x
  obtain ⟨B, hB⟩ : ∃ B, rightT d x.er = B := ⟨_, rfl⟩
  rw [hB] at hR ⊢
  obtain ⟨xk, xb, xi, xt, xA, xl, xc, xA', xks, xc', rfl, _⟩ := hx.form
  refine pureX hmix Tryd.func135 r135 (by kernel_rfl) [.agg ⟨(JV.mk xk xb xi xt (.slice xA xl.length xc) xl (.slice xA' xks.length xc') xks).cells⟩, .pointer (some ⟨g, 0, none⟩)] rfl ?_
  refine ⟨.int .i64 z, h.o, rfl, ((d : Nat) : Int), (by rw [i64_in _ ⟨by omega, by omega⟩]; omega), ?_⟩
  refine call_v rfl (fun W' lw => hR W' (hx.mono lw) hs (hU.mono lw)) (fun W2 v W3 l2 l3 hv => ?_)
  subst hv
  exact ret_plain rfl fun _ _ => rfl
theorem jv_at {l : List JV} {A : Option Addr} {n c : Nat} {W W' : PW} (h : RP JV.cells W (.slice A n c) l) (k : W.Le W') {j : Nat} (hj : j < l.length) (hn : n = l.length) : ∃ a x, A = some a ∧ l[j]? = some x ∧ Rds W' (a.add (j * 6)) x.cells := by
  obtain ⟨a, rfl, x, hx, _, _, hr⟩ := RP.at JV.cells_len h k (j := (j : Int)) ⟨by omega, by omega⟩
  exact ⟨a, x, rfl, hx, hr⟩
set_option maxHeartbeats 4000000 in
theorem rindex_x (d : Nat) (hd : d ≤ 100) (hR : RightX d) (l : List JV) (hl : l.length ≤ 1000000) (u : Value) (g : Nat) (W : PW) (h : Rd W ⟨g, 0, none⟩ (.int .i64 ((d + 1 : Nat) : Int))) (hu : RP JV.cells W u l) (hx : ∀ x ∈ l, JOK W x ∧ Sm x.er) (hU : HU W) :
    CallsX Tryd.prog 171 ⟨[u, cloJ g]⟩ [] W fun v _ => ∃ z : Int, v = .int .i64 z ∧ (z < 0 ↔ l.all (fun x => rightT d x.er) = true) := by
  obtain ⟨A, c, rfl, hc1, hc2⟩ := hu.form
  refine pureX hmix Tryd.func171 r171 (by kernel_rfl) [.slice A l.length c, cloJ g] rfl ?_
  refine ⟨Nat, fun i => [(8, .v (.int .i64 i))], fun _ => [], fun _ => [], fun i _ => i ≤ l.length ∧ (l.take i).all (fun x => rightT d x.er) = true, fun i => l.length - i, 0,
    all_sl ⟨rfl, trivial⟩, rfl, ole_refl _, ⟨Nat.zero_le _, rfl⟩, loopOK (fun _ => ⟨⟨trivial, rfl⟩, trivial⟩) (fun _ => rfl) (fun _ => rfl), ?_⟩
  rintro i W1 l1 ⟨hi, hall⟩ fr
  refine ⟨rfl, br_split (fun hq => ?_) (fun hq => ?_)⟩
  · have hq : (i : Int) < l.length := hq
    obtain ⟨a, x, rfl, hxi, hr⟩ := jv_at hu l1 (j := i) (by omega) rfl
    obtain ⟨h1, h2⟩ := hx x (List.mem_of_getElem? hxi)
    have hcl := fun W' lw => rclo_x d hd hR x g W' (h.mono (l1.trans lw)) (h1.mono (l1.trans lw)) h2 (hU.mono (l1.trans lw))
    have hst : ∀ b, rightT d x.er = b → (l.take (i + 1)).all (fun x => rightT d x.er) = b := fun b hb => by
      rw [List.take_add_one, hxi, List.all_append, hall, Bool.true_and, ← hb]
      simp
    obtain ⟨B, hB⟩ : ∃ B, rightT d x.er = B := ⟨_, rfl⟩
    rw [hB] at hcl
    have hst := hst B hB
    obtain ⟨xk, xb, xi, xt, xA, xl, xc, xA', xks, xc', rfl, _⟩ := h1.form
    refine ⟨⟨by omega, hq⟩, _, rfl, (JV.mk xk xb xi xt (.slice xA xl.length xc) xl (.slice xA' xks.length xc') xks).cells, rfl, hr.o, ?_⟩
    refine call_v rfl hcl (fun W2 v W3 l2 l3 hv => ?_)
    subst hv
    cases B with
    | true => exact ⟨rfl, _, (i64_in ((i : Int) + 1) ⟨by omega, by omega⟩).symm, i + 1, all_sl ⟨rfl, trivial⟩, rfl, ole_refl _, ⟨by omega, hst⟩, by dsimp only; omega⟩
    | false =>
      refine ret_plain rfl fun _ _ => ⟨i, rfl, ⟨fun h => by omega, fun h => ?_⟩⟩
      have := List.all_eq_true.1 h _ (List.mem_of_getElem? hxi)
      rw [hB] at this; cases this
  · have hq : ¬ (i : Int) < l.length := hq
    rw [List.take_of_length_le (by omega)] at hall
    exact ret_plain rfl fun _ _ => ⟨-1, rfl, ⟨fun _ => hall, fun _ => by decide⟩⟩
end Go.Proofs.YtkhgmmejgikgnaaDoor

/- Layer 6 (json), walked: Right of every value. -/
namespace Go.Proofs.YtkhgmmejgikgnaaDoor
open Go.RowKit

theorem jcontains_x (d : Nat) (hd : d ≤ 100) (hR : RightX d) (l : List JV) (hl : l.length ≤ 1000000) (u : Value) (g : Nat) (W : PW) (h : Rd W ⟨g, 0, none⟩ (.int .i64 ((d + 1 : Nat) : Int))) (hu : RP JV.cells W u l) (hx : ∀ x ∈ l, JOK W x ∧ Sm x.er) (hU : HU W) :
    CallsX Tryd.prog 134 ⟨[u, cloJ g]⟩ [] W fun v _ => v = .bool (!(JV.ers l).all (rightT d)) := by
  obtain ⟨A, c, rfl, hc1, hc2⟩ := hu.form
  have e : (JV.ers l).all (rightT d) = l.all (fun x => rightT d x.er) := by rw [ers_map, List.all_map]; (first | done | rfl)
  rw [e]
  obtain ⟨B, hB⟩ : ∃ B, l.all (fun x => rightT d x.er) = B := ⟨_, rfl⟩
  have hidx := fun W' (lw : W.Le W') => rindex_x d hd hR l hl _ g W' (h.mono lw) (hu.mono lw) (fun x hx' => ⟨(hx x hx').1.mono lw, (hx x hx').2⟩) (hU.mono lw)
  rw [hB] at hidx ⊢
  refine pureX hmix Tryd.func134 r134 (by kernel_rfl) [.slice A l.length c, cloJ g] rfl ?_
  refine call_v rfl hidx (fun W2 v W3 l2 l3 hv => ?_)
  obtain ⟨z, rfl, hz⟩ := hv
  refine ⟨rfl, ret_plain rfl fun _ _ => ?_⟩
  cases B with
  | true => rw [decide_eq_false (by have := hz.2 rfl; omega)]; (first | done | rfl)
  | false => rw [decide_eq_true (by rcases Int.lt_or_le z 0 with h | h
                                    · cases hz.1 h
                                    · exact h)]; (first | done | rfl)
set_option maxHeartbeats 16000000 in
theorem jright_x : ∀ d : Nat, d ≤ 100 → RightX d
  | 0, _ => fun x W hx hs hU => by
    obtain ⟨xk, xb, xi, xt, xA, xl, xc, xA', xks, xc', rfl, _⟩ := hx.form
    refine pureX hmix Tryd.func89 r89 (by kernel_rfl) [.agg ⟨(JV.mk xk xb xi xt (.slice xA xl.length xc) xl (.slice xA' xks.length xc') xks).cells⟩, .int .i64 ((0 : Nat) : Int)] rfl ?_
    exact ⟨rfl, ret_plain rfl fun _ _ => rfl⟩
  | d + 1, hd => fun x W hx hs hU => by
    have ih := jright_x d (by omega)
    obtain ⟨xk, xb, xi, xt, xA, xl, xc, xA', xks, xc', rfl, _⟩ := hx.form
    cases hx with
    | mk h1 h2 h3 =>
    cases hs with
    | mk s1 s2 s3 s4 s5 =>
    have hle : (JV.ers xl).length = xl.length := by rw [ers_map, List.length_map]
    rw [hle] at s4
    have hin : ∀ W', W.Le W' → ∀ x ∈ xl, JOK W' x ∧ Sm x.er := fun W' lw x hx => ⟨(h3 x hx).mono lw, s5 _ (by rw [ers_map]; exact List.mem_map_of_mem hx)⟩
    have hcall := fun g W' (lw : W.Le W') (hg : Rd W' ⟨g, 0, none⟩ (.int .i64 ((d + 1 : Nat) : Int))) => jcontains_x d (by omega) ih xl s4 _ g W' hg (h1.mono lw) (hin W' lw) (hU.mono lw)
    have hr : rightT (d + 1) (JV.mk xk xb xi xt (.slice xA xl.length xc) xl (.slice xA' xks.length xc') xks).er =
      if xk = 0 then bareB false false false false false xb xi xt xl.length xks.length
      else if xk = 1 then bareB true false false false false xb xi xt xl.length xks.length
      else if xk = 2 then bareB false true false false false xb xi xt xl.length xks.length && (decide (-9007199254740992 ≤ xi) && decide (xi ≤ 9007199254740992))
      else if xk = 3 then bareB false false true false false xb xi xt xl.length xks.length && Lib.validD xt
      else if xk = 4 then bareB false false false true false xb xi xt xl.length xks.length && (JV.ers xl).all (rightT d)
      else if xk = 5 then bareB false false false true true xb xi xt xl.length xks.length && decide ((xks.length : Int) = xl.length) && distinctT xks && (JV.ers xl).all (rightT d)
      else false := by
      rw [← hle]; (first | done | rfl)
    obtain ⟨R, hR⟩ : ∃ R, rightT (d + 1) (JV.mk xk xb xi xt (.slice xA xl.length xc) xl (.slice xA' xks.length xc') xks).er = R := ⟨_, rfl⟩
    rw [hR] at hr ⊢
    clear hR
    obtain ⟨q, hq⟩ : ∃ q, (JV.ers xl).all (rightT d) = q := ⟨_, rfl⟩
    rw [hq] at hr hcall
    clear hq
    obtain ⟨z, hz⟩ : ∃ z : Int, z = ((d + 1 : Nat) : Int) := ⟨_, rfl⟩
    rw [← hz] at hcall ⊢
    have hro : ∀ {B : Base} {S : GS} {K : GV → GS → Prop} {cs : List PV}, W.Le S.W → S.σ[1]? = some [.v (.int .i64 z)] → (∀ W', S.W.Le W' → K (.v (.bool !q)) (S.setW W')) →
        CallVC Tryd.prog B 134 [.v (.slice xA xl.length xc), .clo 135 [.lp 1 0]] [] S K := by
      intro B S K cs lw hs1 hK
      refine call_ro (fun v => v = .bool !q) k134 (fun ρ w hst => ?_) (fun v W' lw' hv => hv ▸ hK W' lw')
      exact hcall (ρ 1) (PW.all w) (lw.trans hst.le_all) (hst.var_all hs1 rfl 0 _ rfl)
    refine pureX hmix Tryd.func89 r89 (by kernel_rfl) [.agg ⟨(JV.mk xk xb xi xt (.slice xA xl.length xc) xl (.slice xA' xks.length xc') xks).cells⟩, .int .i64 z] rfl ?_
    refine ⟨rfl, br_no (p := z = 0) (by omega) ⟨rfl, ?_⟩⟩
    apply br_split
    · intro e0
      have e0 : xk = 0 := e0
      refine call_v rfl (fun W' _ => bare0_x xk xb xi xt xA xl.length xc xA' xks.length xc' W') (fun W2 v W3 l2 l3 hv => ?_)
      subst hv
      exact ret_plain rfl fun _ _ => by rw [hr, if_pos e0]
    intro e0
    have e0 : ¬ xk = 0 := e0
    rw [if_neg e0] at hr
    refine ⟨rfl, ?_⟩
    apply br_split
    · intro e1
      have e1 : xk = 1 := e1
      refine call_v rfl (fun W' _ => bare1_x xk xb xi xt xA xl.length xc xA' xks.length xc' W') (fun W2 v W3 l2 l3 hv => ?_)
      subst hv
      exact ret_plain rfl fun _ _ => by rw [hr, if_pos e1]
    intro e1
    have e1 : ¬ xk = 1 := e1
    rw [if_neg e1] at hr
    refine ⟨rfl, ?_⟩
    apply br_split
    · intro e2
      have e2 : xk = 2 := e2
      rw [if_pos e2] at hr
      refine call_v rfl (fun W' _ => bare2_x xk xb xi xt xA xl.length xc xA' xks.length xc' W') (fun W2 v W3 l2 l3 hv => ?_)
      obtain ⟨b, hb, rfl⟩ : ∃ b, bareB false true false false false xb xi xt xl.length xks.length = b ∧ v = .bool b := ⟨_, rfl, hv⟩
      rw [hb] at hr
      cases b with
      | false => exact ret_plain rfl fun _ _ => by rw [hr]; (first | done | rfl)
      | true =>
        refine ⟨rfl, ?_⟩
        apply br_split
        · intro e3
          have e3 : -9007199254740992 ≤ xi := e3
          refine ⟨rfl, ret_plain rfl fun _ _ => ?_⟩
          rw [hr, decide_eq_true e3]; (first | done | rfl)
        · intro e3
          have e3 : ¬ -9007199254740992 ≤ xi := e3
          refine ret_plain rfl fun _ _ => ?_
          rw [hr, decide_eq_false e3]; (first | done | rfl)
    intro e2
    have e2 : ¬ xk = 2 := e2
    rw [if_neg e2] at hr
    refine ⟨rfl, ?_⟩
    apply br_split
    · intro e3
      have e3 : xk = 3 := e3
      rw [if_pos e3] at hr
      refine call_v rfl (fun W' _ => bare3_x xk xb xi xt xA xl.length xc xA' xks.length xc' W') (fun W2 v W3 l2 l3 hv => ?_)
      obtain ⟨b, hb, rfl⟩ : ∃ b, bareB false false true false false xb xi xt xl.length xks.length = b ∧ v = .bool b := ⟨_, rfl, hv⟩
      rw [hb] at hr
      cases b with
      | false => exact ret_plain rfl fun _ _ => by rw [hr]; (first | done | rfl)
      | true =>
        refine call_v rfl (fun W' lw => validd_x xt s1 W' (hU.mono (l2.trans (l3.trans lw)))) (fun W4 v W5 l4 l5 hv => ?_)
        subst hv
        exact ret_plain rfl fun _ _ => by rw [hr]; (first | done | rfl)
    intro e3
    have e3 : ¬ xk = 3 := e3
    rw [if_neg e3] at hr
    refine ⟨rfl, ?_⟩
    apply br_split
    · intro e4
      have e4 : xk = 4 := e4
      rw [if_pos e4] at hr
      refine call_v rfl (fun W' _ => bare4_x xk xb xi xt xA xl.length xc xA' xks.length xc' W') (fun W2 v W3 l2 l3 hv => ?_)
      obtain ⟨b, hb, rfl⟩ : ∃ b, bareB false false false true false xb xi xt xl.length xks.length = b ∧ v = .bool b := ⟨_, rfl, hv⟩
      rw [hb] at hr
      cases b with
      | false => exact ret_plain rfl fun _ _ => by rw [hr]; (first | done | rfl)
      | true =>
        refine hro (cs := []) (l2.trans l3) rfl fun W' _ => ?_
        exact ret_plain rfl fun _ _ => by rw [hr, Bool.not_not]; (first | done | rfl)
    intro e4
    have e4 : ¬ xk = 4 := e4
    rw [if_neg e4] at hr
    refine ⟨rfl, ?_⟩
    apply br_split
    · intro e5
      have e5 : xk = 5 := e5
      rw [if_pos e5] at hr
      refine call_v rfl (fun W' _ => bare5_x xk xb xi xt xA xl.length xc xA' xks.length xc' W') (fun W2 v W3 l2 l3 hv => ?_)
      obtain ⟨b, hb, rfl⟩ : ∃ b, bareB false false false true true xb xi xt xl.length xks.length = b ∧ v = .bool b := ⟨_, rfl, hv⟩
      rw [hb] at hr
      cases b with
      | false => exact ret_plain rfl fun _ _ => by rw [hr]; (first | done | rfl)
      | true =>
        refine ⟨rfl, ?_⟩
        apply br_nsplit
        · intro e6
          have e6 : ¬ (xks.length : Int) = xl.length := e6
          exact ret_plain rfl fun _ _ => by rw [hr, decide_eq_false e6]; (first | done | rfl)
        · intro e6
          have e6 : (xks.length : Int) = xl.length := e6
          rw [decide_eq_true e6] at hr
          refine call_v rfl (fun W' lw => distinct_x xks s2 s3 _ W' (hU.mono (l2.trans (l3.trans lw))) (h2.mono (l2.trans (l3.trans lw)))) (fun W4 v W5 l4 l5 hv => ?_)
          obtain ⟨b, hb, rfl⟩ : ∃ b, distinctT xks = b ∧ v = .bool b := ⟨_, rfl, hv⟩
          rw [hb] at hr
          cases b with
          | false => exact ret_plain rfl fun _ _ => by rw [hr]; (first | done | rfl)
          | true =>
            refine hro (cs := []) (l2.trans (l3.trans (l4.trans l5))) rfl fun W' _ => ?_
            exact ret_plain rfl fun _ _ => by rw [hr, Bool.not_not]; (first | done | rfl)
    intro e5
    have e5 : ¬ xk = 5 := e5
    rw [if_neg e5] at hr
    exact ret_plain rfl fun _ _ => by rw [hr]
theorem jRight_x (x : JV) (W : PW) (hx : JOK W x) (hs : Sm x.er) (hU : HU W) : CallsX Tryd.prog 46 ⟨[.agg ⟨x.cells⟩]⟩ [] W fun v _ => v = .bool (rightT 16 x.er) := by
  have hR := fun W' (lw : W.Le W') => jright_x 16 (by decide) x W' (hx.mono lw) hs (hU.mono lw)
  obtain ⟨R, hB⟩ : ∃ R, rightT 16 x.er = R := ⟨_, rfl⟩
  rw [hB] at hR ⊢
  obtain ⟨xk, xb, xi, xt, xA, xl, xc, xA', xks, xc', rfl, _⟩ := hx.form
  refine pureX hmix Tryd.func46 r46 (by kernel_rfl) [.agg ⟨(JV.mk xk xb xi xt (.slice xA xl.length xc) xl (.slice xA' xks.length xc') xks).cells⟩] rfl ?_
  refine call_v rfl hR (fun W2 v W3 l2 l3 hv => ?_)
  subst hv
  exact ret_plain rfl fun _ _ => rfl
end Go.Proofs.YtkhgmmejgikgnaaDoor

/- The engine: a call that sees nothing of its caller's variables, only of what it owns; walked in an empty frame. No statement is proved here. -/
namespace Go.Proofs.YtkhgmmejgikgnaaDoor
open Go.RowKit

section
variable {P : Program} {B : Base}
/-- The world as it stands, with the caller's variables among what is not written any more. -/
def PW.shut (w : World) (W : PW) (h : W.w.heap.size ≤ w.heap.size) (ρ : Nat → Nat) (n : Nat) (hl : ∀ k, k < n → ρ k < w.heap.size) : PW :=
  ⟨w, fun b => W.A b ∨ ∃ k, k < n ∧ ρ k = b, fun b hb => by
    rcases hb with hb | ⟨k, hk, rfl⟩
    · exact Nat.lt_of_lt_of_le (W.lt b hb) h
    · exact hl k hk⟩
theorem call_frame {S : GS} {fid : FuncId} {args : List GV} {vs : List Value} {K : GV → GS → Prop} (hp : plainGs args = some vs)
    (h : ∀ (W1 : PW) (ex : List Nat), S.W.Le W1 → CallVC P ⟨W1, ex, []⟩ fid (vs.map GV.v) [] ⟨[], S.O, W1⟩ fun g S' => ∃ v, g = .v v ∧ ∀ W2, S.W.Le W2 → K (.v v) ⟨S.σ, S'.O, W2⟩) : CallVC P B fid args [] S K := by
  refine ⟨(h S.W [] (PW.Le.refl _)).callable, fun ρ w hst => ?_⟩
  have hl : ∀ k, k < S.σ.length → ρ k < w.heap.size := fun k hk => hst.loc_lt hk
  have hle : S.W.Le (PW.shut w S.W hst.vsize ρ S.σ.length hl) := ⟨hst.vsize, fun b hb => .inl hb, fun b hb => hst.vblock b hb⟩
  have hst1 : St ⟨PW.shut w S.W hst.vsize ρ S.σ.length hl, S.O.filterMap (fun o => o.v.ownBlock), []⟩ ρ ⟨[], S.O, PW.shut w S.W hst.vsize ρ S.σ.length hl⟩ w := by
    refine ⟨Keep.refl _ _, Nat.le_refl _, fun _ _ => rfl, PW.Le.refl _, fun b hb => .inl hb, fun k cs hk => (by simp at hk), fun k hk => absurd hk (Nat.not_lt_zero _), fun j k hj => absurd hj (Nat.not_lt_zero _), fun k cs hk => (by simp at hk), fun k g hk => (by simp at hk), fun i o hi => ?_, hst.sep⟩
    obtain ⟨h1, h2⟩ := hst.own i o hi
    refine ⟨h1, fun b hb => ?_⟩
    obtain ⟨k1, k2, k3⟩ := h2 b hb
    refine ⟨?_, .inl (List.mem_filterMap.2 ⟨o, List.mem_of_getElem? hi, hb⟩), fun k hk => absurd hk (Nat.not_lt_zero _)⟩
    rintro (hA | ⟨k, hk, e⟩)
    · exact k1 hA
    · exact k3 k hk e
  have hrun := (h _ (S.O.filterMap fun o => o.v.ownBlock) hle).run ρ w hst1
  rw [plainGs_real hp ρ]
  have hargs : (vs.map GV.v).map (GV.real ρ) = vs := by rw [List.map_map]; exact List.map_id _
  rw [hargs] at hrun
  refine hrun.mono fun e w' ⟨g, S', ρ', he, _, hg, _, hst', hK⟩ => ?_
  obtain ⟨v, rfl, hK⟩ := hK
  obtain ⟨σ', O', W'⟩ := S'
  have hback : ∀ b, (PW.shut w S.W hst.vsize ρ S.σ.length hl).A b → w'.heap[b]? = w.heap[b]? := fun b hb => (hst'.vblock b (hst'.mono.al b hb)).trans (hst'.mono.bl b hb)
  have hsz : w.heap.size ≤ w'.heap.size := Nat.le_trans hst'.mono.size hst'.vsize
  have hle2 : S.W.Le ⟨w', fun b => W'.A b ∧ ∀ k, k < S.σ.length → ρ k ≠ b, fun b hb => Nat.lt_of_lt_of_le (W'.lt b hb.1) hst'.vsize⟩ := by
    refine ⟨Nat.le_trans hst.vsize hsz, fun b hb => ⟨hst'.mono.al b (.inl hb), fun k hk e => (hst.locA k hk).1 (e ▸ hb)⟩, fun b hb => ?_⟩
    exact (hback b (.inl hb)).trans (hst.vblock b hb)
  refine ⟨.v v, ⟨S.σ, O', ⟨w', fun b => W'.A b ∧ ∀ k, k < S.σ.length → ρ k ≠ b, fun b hb => Nat.lt_of_lt_of_le (W'.lt b hb.1) hst'.vsize⟩⟩, ρ, he, fun _ _ => rfl, ⟨Nat.le_refl _, hle2, ⟨fun k hk => (by cases hk), fun hk => (by cases hk)⟩⟩, trivial, ?_, hK _ hle2⟩
  refine ⟨?_, Nat.le_refl _, fun _ _ => rfl, hst.mono.trans hle2, fun b hb => ?_, fun k cs hk => ?_, fun k hk => ⟨fun hA => hA.2 k hk rfl, (hst.locA k hk).2⟩, hst.inj, hst.cells, hst.rc, fun i o hi => ?_, hst'.sep⟩
  · refine ⟨hst'.keep.os.trans hst.keep.os, hst'.keep.tape.trans hst.keep.tape, hst'.keep.output.trans hst.keep.output, Nat.le_trans hst.keep.size hsz, fun b hb hn => ?_⟩
    refine (hst'.keep.block b (Nat.lt_of_lt_of_le hb hst.keep.size) fun hm => ?_).trans (hst.keep.block b hb hn)
    obtain ⟨o, ho, e⟩ := List.mem_filterMap.1 hm
    obtain ⟨i, hi⟩ := List.getElem?_of_mem ho
    rcases ((hst.own i o hi).2 b e).2.1 with h1 | h1
    · exact hn h1
    · omega
  · obtain ⟨hb1, hb2⟩ := hb
    rcases hst'.back b hb1 with (h1 | ⟨k, hk, e⟩) | h1
    · exact hst.back b h1
    · exact absurd e (hb2 k hk)
    · exact .inr (Nat.le_trans hst.keep.size h1)
  · obtain ⟨e, he⟩ := hst.loc k cs hk
    exact ⟨e, (hback (ρ k) (.inr ⟨k, (List.getElem?_eq_some_iff.1 hk).1, rfl⟩)).trans he⟩
  · obtain ⟨h1, h2⟩ := hst'.own i o hi
    refine ⟨h1, fun b hb => ?_⟩
    obtain ⟨k1, k2, _⟩ := h2 b hb
    refine ⟨fun hA => k1 hA.1, ?_, fun k hk e => k1 (hst'.mono.al b (.inr ⟨k, hk, e⟩))⟩
    rcases k2 with k2 | k2
    · obtain ⟨o2, ho2, e2⟩ := List.mem_filterMap.1 k2
      obtain ⟨i2, hi2⟩ := List.getElem?_of_mem ho2
      exact ((hst.own i2 o2 hi2).2 b e2).2.1
    · exact .inr (Nat.le_trans hst.keep.size k2)
end
end Go.Proofs.YtkhgmmejgikgnaaDoor

/- The printer of layer 6: a strings.Builder within a struct, written in its callers' place. -/
namespace Go.Proofs.YtkhgmmejgikgnaaDoor
open Go.RowKit

theorem prn_lies : liesAt Tryd.prog Tryd.prog.depth 128 (2 / Tryd.prog.cellsOf 128) 0 99 1 = true := by kernel_rfl
theorem bldr_info : ∃ j, Tryd.prog.info? 99 = some j ∧ j.size = 2 := by
  have h : (Tryd.prog.info? 99).map (fun i => i.size) = some 2 := by kernel_rfl
  exact Option.map_eq_some_iff.1 h
set_option maxHeartbeats 1000000 in
set_option maxRecDepth 100000 in
/-- The printer's builder notes its own address: it lies at the front of the printer's variable. -/
theorem prn_copy (b : Nat) (w : World) (h0 : w.cell? ⟨b, 0, none⟩ = some (.pointer none)) (hsh : w.shape? b = some (128, 2)) (hfz : w.frozen? ⟨b, 0, none⟩ = false) :
    Calls Tryd.prog 109 #[.pointer (some ⟨b, 0, none⟩)] w fun e w' => e = .returned (.tuple #[]) ∧ w' = w.setCell ⟨b, 0, none⟩ (.pointer (some ⟨b, 0, none⟩)) := by
  obtain ⟨j, hj, hjs⟩ := bldr_info
  go_enter Tryd.func109, Tryd.ntmps109
  go_wp2
  rw [Lib.run_to_unsafe w ⟨b, 0, none⟩ Tryd.underlying97 Tryd.underlying180 hj (by rw [hjs]; decide) hsh (Nat.zero_lt_succ 1)]
  simp only [Result.andThen]
  rw [Oper.upon_value]
  go_wp2
  rw [run_callFunc_extern Tryd.func158 (by kernel_rfl) (by kernel_rfl) (by kernel_rfl) (e := Extern.AbiNoEscape.same) (by kernel_rfl)]
  rw [Lib.run_noEscape]
  simp only [Result.andThen]
  rw [Oper.upon_value]
  go_wp2
  rw [Lib.run_from_unsafe w ⟨b, 0, none⟩ Tryd.underlying180 Tryd.underlying97 hj hsh prn_lies]
  simp only [Result.andThen]
  rw [Oper.upon_value]
  go_wp2
  go_end0
  exact ⟨rfl, rfl⟩
def prO (b : Nat) (p v : Value) : Own := ⟨.slice (some ⟨b, 0, none⟩) 2 2, 128, 1, 2, [p, v]⟩
section
variable {B : Base} {σ : List (List PV)} {O : List Own} {W : PW} {K : GV → GS → Prop}
theorem prn_check {i b : Nat} {p v : Value} (hi : O[i]? = some (prO b p v)) (hu : Used b p) (hK : K (.v (.tuple #[])) ⟨σ, O.set i (prO b (bldP b) v), W⟩) : CallVC Tryd.prog B 109 [.v (bldP b)] [] ⟨σ, O, W⟩ K := by
  refine ⟨⟨_, Tryd.func109, by kernel_rfl, by kernel_rfl⟩, fun ρ w hst => ?_⟩
  have L : Lays.n240 Tryd.prog Tryd.lays156_ren := { Tryd.lays156 with }
  obtain ⟨h1, _⟩ := hst.own i _ hi
  rcases h1.2 with ⟨h3, _⟩ | ⟨g, cap, cur, hv, _, hg, hnc, hcm, hcs, htake⟩
  · cases h3
  obtain ⟨rfl, rfl⟩ : b = g ∧ 2 = cap := by simpa [prO] using hv
  have hcs : cur.size = 2 := hcs
  have hcur : cur = #[p, v] := by
    apply Array.ext'
    have : cur.toList.take 2 = [p, v] := htake
    rw [List.take_of_length_le (by rw [Array.length_toList]; omega)] at this
    exact this
  subst hcur
  have hg : w.heap[b]? = some (.cells #[p, v] 128 (0, 0)) := hg
  have h0 : w.cell? ⟨b, 0, none⟩ = some p := by simp [World.cell?, hg]
  have hlt := (List.getElem?_eq_some_iff.1 hi).1
  rcases hu with rfl | rfl
  · refine (prn_copy b w h0 (by simp [World.shape?, hg]) (by simp [World.frozen?, hg])).mono fun e w' ⟨he, hw⟩ => ?_
    subst hw
    refine ⟨.v (.tuple #[]), ⟨σ, O.set i (prO b (bldP b) v), W⟩, ρ, he, fun _ _ => rfl, ⟨Nat.le_refl _, PW.Le.refl _, ⟨fun _ hk => rfl, fun hk => by cases hk⟩⟩, trivial, ?_, hK⟩
    refine hst.setOwn (o' := prO b (bldP b) v) hi ⟨rfl, rfl, rfl, by simp [World.setCell], fun k _ hk => Below.heap_setCell _ _ _ _ (fun e => hk (by simp [e, prO, Value.ownBlock]))⟩ ?_ (.inl rfl)
    refine ⟨rfl, .inr ⟨b, 2, #[bldP b, v], rfl, Nat.zero_le _, ?_, Nat.le_refl _, hcm, rfl, rfl⟩⟩
    simp [World.setCell, Array.getElem?_modify, hg, bldP, prO]
  · refine (Any.Builder_copyCheck_used L Tryd.Builder_Extra_156.toX72 b w h0).mono fun e w' ⟨he, hw⟩ => ?_
    subst hw
    have hO : O.set i (prO b (bldP b) v) = O := by
      apply List.ext_getElem?
      intro k
      by_cases hk : i = k
      · subst hk; rw [List.getElem?_set_self hlt, hi]
      · rw [List.getElem?_set_ne hk]
    rw [hO] at hK
    exact ⟨.v (.tuple #[]), ⟨σ, O, W⟩, ρ, he, fun _ _ => rfl, Grow.refl _ _, trivial, hst, hK⟩
theorem prn_write {i j b : Nat} {p v : Value} {l s : List UInt8} (hi : O[i]? = some (prO b p v)) (hj : O[j]? = some (bufO v l)) (hij : i ≠ j) (hu : Used b p) (hlen : l.length + s.length ≤ 140737488355328)
    (hK : ∀ A c, (Value.slice A (l ++ s).length c = .slice none 0 0 ↔ v = .slice none 0 0 ∧ s.length = 0) → K (.v (.tuple #[.int .i64 s.length, .nilIface])) ⟨σ, (O.set i (prO b (bldP b) (.slice A (l ++ s).length c))).set j (bufO (.slice A (l ++ s).length c) (l ++ s)), W⟩) :
    CallVC Tryd.prog B 114 [.v (bldP b), .v (strV s)] [] ⟨σ, O, W⟩ K := by
  have hil := (List.getElem?_eq_some_iff.1 hi).1
  refine call_inl (vs := [bldP b, strV s]) hmix Tryd.func114 r114 (by kernel_rfl) rfl rfl fun rc => ?_
  refine prn_check hi hu ?_
  have hi1 : (O.set i (prO b (bldP b) v))[i]? = some (prO b (bldP b) v) := List.getElem?_set_self hil
  have hj1 : (O.set i (prO b (bldP b) v))[j]? = some (bufO v l) := by rw [List.getElem?_set_ne hij]; exact hj
  refine ⟨v, .inr ⟨i, prO b (bldP b) v, ⟨b, 0, none⟩, 2, 2, 1, hi1, rfl, rfl, rfl⟩, ?_⟩
  have hm : l.length + s.length ≤ maxLen := by have : (140737488355328 : Nat) ≤ maxLen := by decide
                                               omega
  obtain ⟨ti, e0, e1, e2, e3⟩ := info_parts Tryd.Builder_Extra_156.infoByte
  refine bld_app (j := j) (n := l.length) (xs := l.map byteV) (s := ⟨⟨s⟩⟩) rfl Tryd.underlying33 Tryd.underlying9 e0 e1 e2 e3 rfl rfl hj1 hm hlen rfl fun A c hn => ?_
  have hi2 : ((O.set i (prO b (bldP b) v)).set j ⟨.slice A (l.length + s.length) c, 5, 1, l.length + s.length, l.map byteV ++ Lib.strCells ⟨⟨s⟩⟩⟩)[i]? = some (prO b (bldP b) v) := by rw [List.getElem?_set_ne (Ne.symm hij)]; exact hi1
  refine ⟨i, prO b (bldP b) v, ⟨b, 0, none⟩, 2, 2, 1, hi2, rfl, rfl, rfl, fun u hu => ?_, Nat.le_refl 2, rfl, ?_⟩
  · rw [List.mem_singleton.1 hu]; (first | done | rfl)
  refine ⟨_, rfl, ?_⟩
  have h := hK A c (by rw [List.length_append]; exact hn)
  rw [List.length_append] at h
  have e : bufO (.slice A (l.length + s.length) c) (l ++ s) = ⟨.slice A (l.length + s.length) c, 5, 1, l.length + s.length, l.map byteV ++ Lib.strCells ⟨⟨s⟩⟩⟩ := by
    unfold bufO
    rw [List.length_append, List.map_append]; (first | done | rfl)
  rw [e, ← set3 hij (prO b (bldP b) v)] at h
  exact h

theorem prn_len {i b n c : Nat} {p : Value} {A : Option Addr} (hi : O[i]? = some (prO b p (.slice A n c))) (hK : K (.v (.int .i64 n)) ⟨σ, O, W⟩) : CallVC Tryd.prog B 92 [.v (bldP b)] [] ⟨σ, O, W⟩ K := by
  refine call_inl (vs := [bldP b]) hmix Tryd.func92 r92 (by kernel_rfl) rfl rfl fun rc => ?_
  exact ⟨.slice A n c, .inr ⟨i, _, ⟨b, 0, none⟩, 2, 2, 1, hi, rfl, rfl, rfl⟩, _, rfl, hK⟩

/-- String, the first time: the buffer is not written from now on. -/
theorem prn_str {i j b c : Nat} {p : Value} {A : Option Addr} {l : List UInt8} (hex : B.ex = []) (hi : O[i]? = some (prO b p (.slice A l.length c))) (hj : O[j]? = some (bufO (.slice A l.length c) l)) (hl : l ≠ []) (h63 : l.length ≤ 9223372036854775807)
    (hK : ∀ g W', A = some ⟨g, 0, none⟩ → c ≠ 0 → W.Le W' → Frz W' 5 g l → K (.v (strV l)) ⟨σ, O.eraseIdx j, W'⟩) : CallVC Tryd.prog B 65 [.v (bldP b)] [] ⟨σ, O, W⟩ K := by
  refine call_inl (vs := [bldP b]) hmix Tryd.func65 r65 (by kernel_rfl) rfl rfl fun rc => ?_
  have hl0 : l.length ≠ 0 := by simpa using hl
  refine ⟨.slice A l.length c, .inr ⟨i, _, ⟨b, 0, none⟩, 2, 2, 1, hi, rfl, rfl, rfl⟩, .slice A l.length c, .inr ⟨i, _, ⟨b, 0, none⟩, 2, 2, 1, hi, rfl, rfl, rfl⟩, ?_⟩
  refine bld_sd (j := j) (ow := bufO (.slice A l.length c) l) rfl rfl hj hl0 fun g c' hv hc => ?_
  obtain ⟨rfl, rfl⟩ : A = some ⟨g, 0, none⟩ ∧ c = c' := by simpa [bufO] using hv
  refine bld_us1 (j := j) (e := 5) (g := g) (c := c) (l := l) rfl Tryd.underlying142 Tryd.Builder_Extra_156.cellsByte hex rfl rfl hj hl h63 rfl fun W' hle hF => ?_
  exact ⟨_, rfl, hK g W' rfl hc hle hF⟩
theorem prn_wbyte {i j b : Nat} {p v : Value} {l : List UInt8} {n : Int} (c : UInt8) (hn : n = c.toNat) (hi : O[i]? = some (prO b p v)) (hj : O[j]? = some (bufO v l)) (hij : i ≠ j) (hu : Used b p) (hlen : l.length + 1 ≤ 140737488355328)
    (hK : ∀ A d W', W.Le W' → K (.v .nilIface) ⟨σ, (O.set i (prO b (bldP b) (.slice A (l ++ [c]).length d))).set j (bufO (.slice A (l ++ [c]).length d) (l ++ [c])), W'⟩) :
    CallVC Tryd.prog B 63 [.v (bldP b), .v (.int .u8 n)] [] ⟨σ, O, W⟩ K := by
  subst hn
  have hil := (List.getElem?_eq_some_iff.1 hi).1
  refine call_inl (vs := [bldP b, .int .u8 c.toNat]) hmix Tryd.func63 r63 (by kernel_rfl) rfl rfl fun rc => ?_
  refine prn_check hi hu ?_
  have hi1 : (O.set i (prO b (bldP b) v))[i]? = some (prO b (bldP b) v) := List.getElem?_set_self hil
  have hj1 : (O.set i (prO b (bldP b) v))[j]? = some (bufO v l) := by rw [List.getElem?_set_ne hij]; exact hj
  refine ⟨v, .inr ⟨i, prO b (bldP b) v, ⟨b, 0, none⟩, 2, 2, 1, hi1, rfl, rfl, rfl⟩, rfl, .inl fun g W1 l1 hr => ?_⟩
  have hm : (140737488355328 : Nat) ≤ maxLen := by decide
  refine ⟨j, bufO v l, [byteV c], hj1, rfl, rfl, rfl, rfl, fun u hu => by rw [List.mem_singleton.1 hu]; (first | done | rfl), fun _ => ⟨_, rfl, hr.o⟩, by show l.length + 1 ≤ _; omega, by show (l.length + 1) * 1 ≤ _; omega, rfl, @fun A d _ => ?_⟩
  have hi2 : ((O.set i (prO b (bldP b) v)).set j ⟨.slice A ((bufO v l).n + 1) d, 5, 1, (bufO v l).n + 1, (bufO v l).cs ++ [byteV c]⟩)[i]? = some (prO b (bldP b) v) := by rw [List.getElem?_set_ne (Ne.symm hij)]; exact hi1
  refine ⟨i, prO b (bldP b) v, ⟨b, 0, none⟩, 2, 2, 1, hi2, rfl, rfl, rfl, fun u hu => ?_, Nat.le_refl 2, rfl, ?_⟩
  · rw [List.mem_singleton.1 hu]; (first | done | rfl)
  refine ⟨_, rfl, ?_⟩
  have h := hK A d W1 l1
  rw [List.length_append] at h
  have e : bufO (.slice A (l.length + 1) d) (l ++ [c]) = ⟨.slice A (l.length + 1) d, 5, 1, l.length + 1, l.map byteV ++ [byteV c]⟩ := by
    unfold bufO
    rw [List.length_append, List.map_append]; (first | done | rfl)
  rw [show [c].length = 1 from rfl, e, ← set3 hij (prO b (bldP b) v)] at h
  exact h
end
theorem prn_info : ∃ i z, Tryd.prog.info? 128 = some i ∧ i.zero = some z ∧ z.cells.toList = [.pointer none, .slice none 0 0] := by
  have h : ((Tryd.prog.info? 128).bind fun i => i.zero.map fun z => z.cells.toList) = some [.pointer none, .slice none 0 0] := by kernel_rfl
  obtain ⟨i, hi, h⟩ := Option.bind_eq_some_iff.1 h
  obtain ⟨z, hz, h⟩ := Option.map_eq_some_iff.1 h
  exact ⟨i, z, hi, hz, h⟩
end Go.Proofs.YtkhgmmejgikgnaaDoor

/- Layer 6 (json), walked: a text in its signs, any text. -/
namespace Go.Proofs.YtkhgmmejgikgnaaDoor
open Go.RowKit

def hexD (n : Nat) : UInt8 := dgL.getD n 0
theorem hexD_at (n : Nat) : byteAt dgL n = (hexD n).toNat := by unfold byteAt hexD; rw [List.getD_eq_getElem?_getD]
def escT (c : UInt8) : List UInt8 := if c.toNat = 34 ∨ c.toNat = 92 then [92, c] else if c.toNat = 10 then [92, 110] else if c.toNat = 13 then [92, 114] else if c.toNat = 9 then [92, 116] else if c.toNat < 32 ∨ c.toNat = 127 then [92, 117, 48, 48, hexD (c.toNat / 16), hexD (c.toNat % 16)] else [c]
def signsT (s : List UInt8) : List UInt8 := (s.map escT).flatten
def quoteT (s : List UInt8) : List UInt8 := [34] ++ signsT s ++ [34]
theorem signsT_take {s : List UInt8} {i : Nat} {c : UInt8} (h : s[i]? = some c) : signsT (s.take (i + 1)) = signsT (s.take i) ++ escT c := by
  unfold signsT; rw [take_snoc h, List.map_append, List.flatten_append]; simp
theorem escT_len (c : UInt8) : (escT c).length ≤ 6 := by
  unfold escT
  repeat' split
  all_goals simp
theorem signsT_len : ∀ s : List UInt8, (signsT s).length ≤ 6 * s.length
  | [] => Nat.le_refl _
  | c :: r => by
    have h1 := signsT_len r
    have h2 := escT_len c
    show (escT c ++ signsT r).length ≤ _
    rw [List.length_append, List.length_cons]; omega
theorem quoteT_len (s : List UInt8) : (quoteT s).length ≤ 6 * s.length + 2 := by
  have := signsT_len s
  unfold quoteT; simp; omega
set_option maxRecDepth 20000 in
set_option maxHeartbeats 16000000 in
theorem jquote_x (s : List UInt8) (hs : s.length ≤ 1000000) (W : PW) : CallsX Tryd.prog 138 ⟨[strV s]⟩ [] W fun v _ => v = strV (quoteT s) := by
  refine pureNX hmix Tryd.func138 r138 (by kernel_rfl) [nilO 5 1] rfl [strV s] rfl ?_
  obtain ⟨ti, tz, e1, e2, e3⟩ := bld_info
  refine bld_alloc rfl e1 e2 e3 fun b _ => ?_
  refine bld_wbyte (i := 1) (j := 0) (l := []) 34 rfl rfl rfl (by decide) (.inl rfl) (by decide) fun A0 d0 W1 _ => ?_
  refine ⟨BSt, fun t => [(9, .v (.int .i64 t.i))], fun _ => [], bO b, fun t _ => t.p = bldP b ∧ t.i ≤ s.length ∧ t.l = [34] ++ signsT (s.take t.i), fun t => s.length - t.i, ⟨0, bldP b, A0, d0, [34]⟩,
    all_sl ⟨rfl, trivial⟩, rfl, ole_refl _, ⟨rfl, Nat.zero_le _, rfl⟩, loopOK (fun _ => ⟨⟨trivial, rfl⟩, trivial⟩) (fun _ => rfl) (fun _ => rfl), ?_⟩
  rintro ⟨i, p, A, c, l⟩ W5 l5 ⟨hu, hi, hl⟩ fr
  dsimp only at hu hi hl
  subst hu
  have hll : l.length ≤ 6 * i + 1 := by
    have h1 := signsT_len (s.take i)
    rw [List.length_take] at h1
    rw [hl, List.length_append]; show 1 + _ ≤ _; omega
  refine ⟨rfl, br_split (fun hq => ?_) (fun hq => ?_)⟩
  · have hq : (i : Int) < s.length := hq
    obtain ⟨x, hx⟩ := at_q (s := s) (i := i) (by omega)
    have hb : byteAt s (i : Int).toNat = x.toNat := byteAt_get hx
    have inc := (i64_in ((i : Int) + 1) ⟨by omega, by omega⟩).symm
    have hnext : ∀ e, escT x = e → l ++ e = [34] ++ signsT (s.take (i + 1)) := fun e he => by rw [signsT_take hx, hl, he, List.append_assoc]
    refine ⟨⟨by omega, hq⟩, ?_⟩
    obtain ⟨z, hz⟩ : ∃ z, byteAt s (i : Int).toNat = z := ⟨_, rfl⟩
    generalize byteAt s (i : Int).toNat = z at hb ⊢
    refine ⟨rfl, ?_⟩
    apply br_split
    · intro g1
      have g1 : z = 34 := g1
      have he : escT x = [92, x] := by unfold escT; rw [if_pos (.inl (by omega))]
      refine bld_wbyte (i := 1) (j := 0) 92 rfl rfl rfl (by decide) (.inr rfl) (by show l.length + 1 ≤ _; omega) fun A1 d1 W3 _ => ?_
      refine bld_wbyte (i := 1) (j := 0) x hb rfl rfl (by decide) (.inr rfl) (by rw [List.length_append]; show l.length + 1 + 1 ≤ _; omega) fun A2 d2 W4 _ => ?_
      exact ⟨rfl, _, inc, ⟨i + 1, bldP b, A2, d2, l ++ [92] ++ [x]⟩, all_sl ⟨rfl, trivial⟩, rfl, ole_refl _, ⟨rfl, by dsimp only; omega, by dsimp only; rw [← hnext _ he, List.append_assoc]; (first | done | rfl)⟩, by dsimp only; omega⟩
    intro g1
    have g1 : ¬ z = 34 := g1
    refine ⟨rfl, ?_⟩
    apply br_split
    · intro g2
      have g2 : z = 92 := g2
      have he : escT x = [92, x] := by unfold escT; rw [if_pos (.inr (by omega))]
      refine bld_wbyte (i := 1) (j := 0) 92 rfl rfl rfl (by decide) (.inr rfl) (by show l.length + 1 ≤ _; omega) fun A1 d1 W3 _ => ?_
      refine bld_wbyte (i := 1) (j := 0) x hb rfl rfl (by decide) (.inr rfl) (by rw [List.length_append]; show l.length + 1 + 1 ≤ _; omega) fun A2 d2 W4 _ => ?_
      exact ⟨rfl, _, inc, ⟨i + 1, bldP b, A2, d2, l ++ [92] ++ [x]⟩, all_sl ⟨rfl, trivial⟩, rfl, ole_refl _, ⟨rfl, by dsimp only; omega, by dsimp only; rw [← hnext _ he, List.append_assoc]; (first | done | rfl)⟩, by dsimp only; omega⟩
    intro g2
    have g2 : ¬ z = 92 := g2
    have k1 : ¬ (x.toNat = 34 ∨ x.toNat = 92) := by omega
    refine ⟨rfl, ?_⟩
    apply br_split
    · intro g3
      have g3 : z = 10 := g3
      have he : escT x = [92, 110] := by unfold escT; rw [if_neg k1, if_pos (by omega)]
      refine bld_write (i := 1) (j := 0) rfl rfl (by decide) (.inr rfl) (by show l.length + 2 ≤ _; omega) fun A1 d1 _ => ?_
      exact ⟨rfl, _, inc, ⟨i + 1, bldP b, A1, d1, l ++ [92, 110]⟩, all_sl ⟨rfl, trivial⟩, rfl, ole_refl _, ⟨rfl, by dsimp only; omega, by dsimp only; rw [← hnext _ he]⟩, by dsimp only; omega⟩
    intro g3
    have g3 : ¬ z = 10 := g3
    refine ⟨rfl, ?_⟩
    apply br_split
    · intro g4
      have g4 : z = 13 := g4
      have he : escT x = [92, 114] := by unfold escT; rw [if_neg k1, if_neg (by omega), if_pos (by omega)]
      refine bld_write (i := 1) (j := 0) rfl rfl (by decide) (.inr rfl) (by show l.length + 2 ≤ _; omega) fun A1 d1 _ => ?_
      exact ⟨rfl, _, inc, ⟨i + 1, bldP b, A1, d1, l ++ [92, 114]⟩, all_sl ⟨rfl, trivial⟩, rfl, ole_refl _, ⟨rfl, by dsimp only; omega, by dsimp only; rw [← hnext _ he]⟩, by dsimp only; omega⟩
    intro g4
    have g4 : ¬ z = 13 := g4
    refine ⟨rfl, ?_⟩
    apply br_split
    · intro g5
      have g5 : z = 9 := g5
      have he : escT x = [92, 116] := by unfold escT; rw [if_neg k1, if_neg (by omega), if_neg (by omega), if_pos (by omega)]
      refine bld_write (i := 1) (j := 0) rfl rfl (by decide) (.inr rfl) (by show l.length + 2 ≤ _; omega) fun A1 d1 _ => ?_
      exact ⟨rfl, _, inc, ⟨i + 1, bldP b, A1, d1, l ++ [92, 116]⟩, all_sl ⟨rfl, trivial⟩, rfl, ole_refl _, ⟨rfl, by dsimp only; omega, by dsimp only; rw [← hnext _ he]⟩, by dsimp only; omega⟩
    intro g5
    have g5 : ¬ z = 9 := g5
    obtain ⟨r1, hr1, hr2⟩ : ∃ r : Int, r = shV .shr .u8 z 4 ∧ r = ((x.toNat / 16 : Nat) : Int) := ⟨_, rfl, by rw [hb]; exact (shr4 x).symm⟩
    obtain ⟨r3, hr3, hr4⟩ : ∃ r : Int, Op.intBits .and .u8 z 15 = pure (.int .u8 r) ∧ r = ((x.toNat % 16 : Nat) : Int) := ⟨_, by rw [hb]; exact and15 x, rfl⟩
    have hx8 : x.toNat < 256 := x.toNat_lt
    refine ⟨rfl, ?_⟩
    apply br_split
    · intro g6
      have g6 : z < 32 := g6
      have he : escT x = [92, 117, 48, 48, hexD (x.toNat / 16), hexD (x.toNat % 16)] := by unfold escT; rw [if_neg k1, if_neg (by omega), if_neg (by omega), if_neg (by omega), if_pos (.inl (by omega))]
      refine bld_write (i := 1) (j := 0) rfl rfl (by decide) (.inr rfl) (by show l.length + 4 ≤ _; omega) fun A1 d1 _ => ?_
      refine ⟨by decide, r1, hr1, ⟨by omega, by show r1 < 16; omega⟩, ?_⟩
      refine bld_wbyte (i := 1) (j := 0) (hexD (x.toNat / 16)) (by show byteAt dgL r1.toNat = _; rw [hr2]; exact hexD_at _) rfl rfl (by decide) (.inr rfl) (by rw [List.length_append]; show l.length + 4 + 1 ≤ _; omega) fun A2 d2 W3 _ => ?_
      refine ⟨rfl, r3, hr3, ⟨by omega, by show r3 < 16; omega⟩, ?_⟩
      refine bld_wbyte (i := 1) (j := 0) (hexD (x.toNat % 16)) (by show byteAt dgL r3.toNat = _; rw [hr4]; exact hexD_at _) rfl rfl (by decide) (.inr rfl) (by rw [List.length_append, List.length_append]; show l.length + 4 + 1 + 1 ≤ _; omega) fun A3 d3 W4 _ => ?_
      exact ⟨rfl, _, inc, ⟨i + 1, bldP b, A3, d3, l ++ [92, 117, 48, 48] ++ [hexD (x.toNat / 16)] ++ [hexD (x.toNat % 16)]⟩, all_sl ⟨rfl, trivial⟩, rfl, ole_refl _, ⟨rfl, by dsimp only; omega, by dsimp only; rw [← hnext _ he]; simp⟩, by dsimp only; omega⟩
    intro g6
    have g6 : ¬ z < 32 := g6
    refine ⟨rfl, ?_⟩
    apply br_split
    · intro g7
      have g7 : z = 127 := g7
      have he : escT x = [92, 117, 48, 48, hexD (x.toNat / 16), hexD (x.toNat % 16)] := by unfold escT; rw [if_neg k1, if_neg (by omega), if_neg (by omega), if_neg (by omega), if_pos (.inr (by omega))]
      refine bld_write (i := 1) (j := 0) rfl rfl (by decide) (.inr rfl) (by show l.length + 4 ≤ _; omega) fun A1 d1 _ => ?_
      refine ⟨by decide, r1, hr1, ⟨by omega, by show r1 < 16; omega⟩, ?_⟩
      refine bld_wbyte (i := 1) (j := 0) (hexD (x.toNat / 16)) (by show byteAt dgL r1.toNat = _; rw [hr2]; exact hexD_at _) rfl rfl (by decide) (.inr rfl) (by rw [List.length_append]; show l.length + 4 + 1 ≤ _; omega) fun A2 d2 W3 _ => ?_
      refine ⟨rfl, r3, hr3, ⟨by omega, by show r3 < 16; omega⟩, ?_⟩
      refine bld_wbyte (i := 1) (j := 0) (hexD (x.toNat % 16)) (by show byteAt dgL r3.toNat = _; rw [hr4]; exact hexD_at _) rfl rfl (by decide) (.inr rfl) (by rw [List.length_append, List.length_append]; show l.length + 4 + 1 + 1 ≤ _; omega) fun A3 d3 W4 _ => ?_
      exact ⟨rfl, _, inc, ⟨i + 1, bldP b, A3, d3, l ++ [92, 117, 48, 48] ++ [hexD (x.toNat / 16)] ++ [hexD (x.toNat % 16)]⟩, all_sl ⟨rfl, trivial⟩, rfl, ole_refl _, ⟨rfl, by dsimp only; omega, by dsimp only; rw [← hnext _ he]; simp⟩, by dsimp only; omega⟩
    intro g7
    have g7 : ¬ z = 127 := g7
    have he : escT x = [x] := by unfold escT; rw [if_neg k1, if_neg (by omega), if_neg (by omega), if_neg (by omega), if_neg (by omega)]
    refine bld_wbyte (i := 1) (j := 0) x hb rfl rfl (by decide) (.inr rfl) (by show l.length + 1 ≤ _; omega) fun A1 d1 W3 _ => ?_
    exact ⟨rfl, _, inc, ⟨i + 1, bldP b, A1, d1, l ++ [x]⟩, all_sl ⟨rfl, trivial⟩, rfl, ole_refl _, ⟨rfl, by dsimp only; omega, by dsimp only; rw [← hnext _ he]⟩, by dsimp only; omega⟩
  · have hq : ¬ (i : Int) < s.length := hq
    rw [List.take_of_length_le (by omega)] at hl
    refine bld_wbyte (i := 1) (j := 0) 34 rfl rfl rfl (by decide) (.inr rfl) (by show l.length + 1 ≤ _; omega) fun A1 d1 W3 _ => ?_
    refine bld_str (i := 1) (j := 0) rfl rfl rfl (by simp) (by rw [List.length_append]; show l.length + 1 ≤ _; omega) fun g W9 hA hc l9 hF => ?_
    exact ret_plain rfl fun _ _ => by rw [hl]; (first | done | rfl)
end Go.Proofs.YtkhgmmejgikgnaaDoor

/- Layer 6 (json), walked: Print of every value. -/
namespace Go.Proofs.YtkhgmmejgikgnaaDoor
open Go.RowKit

/-! ## Texts -/
def catC : List (List UInt8) → List UInt8
  | [] => []
  | x :: r => 44 :: (x ++ catC r)
theorem catC_snoc (a : List (List UInt8)) (y : List UInt8) : catC (a ++ [y]) = catC a ++ 44 :: y := by
  induction a with
  | nil => simp [catC]
  | cons x a ih => simp [catC, ih]
def joinC (xs : List (List UInt8)) : List UInt8 := (catC xs).drop 1
theorem joinC_snoc {a : List (List UInt8)} (h : a ≠ []) (y : List UInt8) : joinC (a ++ [y]) = joinC a ++ 44 :: y := by
  unfold joinC
  rw [catC_snoc]
  cases a with
  | nil => exact absurd rfl h
  | cons x a => rfl
def preT (k : Int) (ks : List (List UInt8)) (i : Nat) : List UInt8 := if k = 5 then quoteT (ks.getD i []) ++ [58] else []
def itemsT (k : Int) (ks ts : List (List UInt8)) (n : Nat) : List (List UInt8) := (List.range n).map fun i => preT k ks i ++ ts.getD i []
theorem itemsT_succ (k : Int) (ks ts : List (List UInt8)) (n : Nat) : itemsT k ks ts (n + 1) = itemsT k ks ts n ++ [preT k ks n ++ ts.getD n []] := by unfold itemsT; rw [List.range_succ, List.map_append]; (first | done | rfl)
theorem itemsT_nil {k : Int} {ks ts : List (List UInt8)} {n : Nat} (h : n ≠ 0) : itemsT k ks ts n ≠ [] := by
  intro e
  have := congrArg List.length e
  simp [itemsT] at this
  exact h this
def textT : Nat → JT → List UInt8
  | 0, _ => []
  | d + 1, .mk k b i t l ks => if k = 0 then nullS' else if k = 1 then (if b = true then trueS' else falseS') else if k = 2 then Lib.itoa i else if k = 3 then quoteT t
    else if k = 4 then [91] ++ joinC (itemsT 4 ks (l.map (textT d)) l.length) ++ [93]
    else if k = 5 then [123] ++ joinC (itemsT 5 ks (l.map (textT d)) l.length) ++ [125] else []
theorem joinC_grow (k : Int) (ks ts : List (List UInt8)) (n : Nat) : (joinC (itemsT k ks ts n)).length ≤ (joinC (itemsT k ks ts (n + 1))).length := by
  rw [itemsT_succ]
  by_cases h : n = 0
  · subst h; exact Nat.zero_le _
  · rw [joinC_snoc (itemsT_nil h), List.length_append]; omega
theorem joinC_le (k : Int) (ks ts : List (List UInt8)) : ∀ {n m : Nat}, n ≤ m → (joinC (itemsT k ks ts n)).length ≤ (joinC (itemsT k ks ts m)).length
  | n, 0, h => by obtain rfl : n = 0 := by omega
                  exact Nat.le_refl _
  | n, m + 1, h => by
    by_cases e : n = m + 1
    · rw [e]; exact Nat.le_refl _
    · exact Nat.le_trans (joinC_le k ks ts (by omega)) (joinC_grow k ks ts m)

/-! ## The printer -/
def pJ (b : Nat) (t : BSt) : List Own := [bufO (.slice t.A t.l.length t.c) t.l, prO b t.p (.slice t.A t.l.length t.c)]
def PrX (d : Nat) : Prop := ∀ (x : JV) (B : Base) (W : PW) (b : Nat) (p : Value) (A : Option Addr) (c : Nat) (l : List UInt8) (K : GV → GS → Prop), JOK W x → Sm x.er → rightT d x.er = true → HTJ W → Used b p → l.length + (textT d x.er).length ≤ 100000000000000 →
  (∀ σ' A' c' W', W.Le W' → K (.v (.tuple ⟨[]⟩)) ⟨σ', pJ b ⟨0, bldP b, A', c', l ++ textT d x.er⟩, W'⟩) →
  CallVC Tryd.prog B 91 [.v (bldP b), .v (.agg ⟨x.cells⟩)] [] ⟨[], pJ b ⟨0, p, A, c, l⟩, W⟩ K
theorem fmtb_x (b : Bool) (W : PW) : CallsX Tryd.prog 136 ⟨[.bool b]⟩ [] W fun v _ => v = strV (if b = true then trueS' else falseS') := by
  refine CallsX.of_same (v := strV (if b = true then trueS' else falseS')) ⟨_, Tryd.func136, by kernel_rfl, by kernel_rfl⟩ ((Tryd.strconv_FormatBool b W.w).mono fun e w' ⟨he, hw⟩ => ⟨?_, hw⟩)
  rw [he]
  cases b <;> rfl
theorem item_next {k : Int} {ks ts : List (List UInt8)} {i : Nat} {l0 l : List UInt8} (op : UInt8) (y : List UInt8) (hl : l = l0 ++ [op] ++ joinC (itemsT k ks ts i)) (hy : ts.getD i [] = y) (sep : List UInt8) (hs : sep = if i = 0 then [] else [44]) :
    l ++ sep ++ preT k ks i ++ y = l0 ++ [op] ++ joinC (itemsT k ks ts (i + 1)) := by
  subst hl hy hs
  rw [itemsT_succ]
  by_cases h : i = 0
  · subst h
    rw [if_pos rfl]
    show l0 ++ [op] ++ joinC [] ++ [] ++ preT k ks 0 ++ ts.getD 0 [] = l0 ++ [op] ++ joinC ([] ++ [preT k ks 0 ++ ts.getD 0 []])
    simp [joinC, catC]
  · rw [if_neg h, joinC_snoc (itemsT_nil h)]
    simp
set_option maxRecDepth 20000 in
set_option maxHeartbeats 16000000 in
theorem jall_p (d : Nat) (hval : PrX d) (k : Int) (hk : k = 4 ∨ k = 5) (xb : Bool) (xi : Int) (xt : List UInt8) (xA : Option Addr) (xl : List JV) (xc : Nat) (xA' : Option Addr) (xks : List (List UInt8)) (xc' : Nat) (op cl : UInt8)
    (B : Base) (W : PW) (b : Nat) (p : Value) (A : Option Addr) (c : Nat) (l : List UInt8) (K : GV → GS → Prop)
    (h1 : RP JV.cells W (.slice xA xl.length xc) xl) (h2 : RP sC W (.slice xA' xks.length xc') xks) (h3 : ∀ x ∈ xl, JOK W x ∧ Sm x.er ∧ rightT d x.er = true) (s3 : ∀ k ∈ xks, k.length ≤ 1000000) (s4 : xl.length ≤ 1000000) (hks : k = 5 → xks.length = xl.length) (hT : HTJ W) (hu : Used b p)
    (hlen : l.length + ([op] ++ joinC (itemsT k xks ((JV.ers xl).map (textT d)) xl.length) ++ [cl]).length ≤ 100000000000000)
    (hK : ∀ σ' A' c' W', W.Le W' → K (.v (.tuple ⟨[]⟩)) ⟨σ', pJ b ⟨0, bldP b, A', c', l ++ ([op] ++ joinC (itemsT k xks ((JV.ers xl).map (textT d)) xl.length) ++ [cl])⟩, W'⟩) :
    CallVC Tryd.prog B 139 [.v (bldP b), .v (.agg ⟨(JV.mk k xb xi xt (.slice xA xl.length xc) xl (.slice xA' xks.length xc') xks).cells⟩), .v (.int .u8 op.toNat), .v (.int .u8 cl.toNat)] [] ⟨[], pJ b ⟨0, p, A, c, l⟩, W⟩ K := by
  obtain ⟨zo, hzo⟩ : ∃ z : Int, z = op.toNat := ⟨_, rfl⟩
  obtain ⟨zc, hzc⟩ : ∃ z : Int, z = cl.toNat := ⟨_, rfl⟩
  rw [← hzo, ← hzc]
  obtain ⟨ts, hts⟩ : ∃ ts, (JV.ers xl).map (textT d) = ts := ⟨_, rfl⟩
  have htget : ∀ (i : Nat) (x : JV), xl[i]? = some x → ts.getD i [] = textT d x.er := fun i x hx => by
    rw [← hts, ers_map, List.getD_eq_getElem?_getD, List.getElem?_map, List.getElem?_map, hx]; (first | done | rfl)
  rw [hts] at hlen hK
  simp only [List.length_append] at hlen
  have hone : ([op] : List UInt8).length = 1 ∧ ([cl] : List UInt8).length = 1 := ⟨rfl, rfl⟩
  refine call_inl (vs := [bldP b, .agg ⟨(JV.mk k xb xi xt (.slice xA xl.length xc) xl (.slice xA' xks.length xc') xks).cells⟩, .int .u8 zo, .int .u8 zc]) hmix Tryd.func139 r139 (by kernel_rfl) rfl rfl fun rc => ?_
  refine prn_wbyte (i := 1) (j := 0) op hzo rfl rfl (by decide) hu (by show l.length + 1 ≤ _; omega) fun A0 d0 W4 l4 => ?_
  refine ⟨BSt, fun t => [(18, .v (.int .i64 t.i))], fun _ => [(JV.mk k xb xi xt (.slice xA xl.length xc) xl (.slice xA' xks.length xc') xks).cells.map PV.v], pJ b, fun t _ => t.p = bldP b ∧ t.i ≤ xl.length ∧ t.l = l ++ [op] ++ joinC (itemsT k xks ts t.i), fun t => xl.length - t.i, ⟨0, bldP b, A0, d0, l ++ [op]⟩,
    all_sl ⟨rfl, trivial⟩, rfl, ole_refl _, ⟨rfl, Nat.zero_le _, by show l ++ [op] = l ++ [op] ++ []; rw [List.append_nil]⟩, loopOK (fun _ => ⟨⟨trivial, rfl⟩, trivial⟩) (fun _ => rfl) (fun _ => rfl), ?_⟩
  rintro ⟨i, p', A1, c1, l1⟩ W5 l5 ⟨hu1, hi, hl⟩ fr
  dsimp only at hu1 hi hl
  subst hu1
  have lB := l4.trans l5
  have hll : l1.length + 2 ≤ 100000000000001 := by
    have := joinC_le k xks ts hi
    rw [hl, List.length_append, List.length_append]; omega
  refine ⟨rfl, br_split (fun hq => ?_) (fun hq => ?_)⟩
  · have hq : (i : Int) < xl.length := hq
    have inc := (i64_in ((i : Int) + 1) ⟨by omega, by omega⟩).symm
    obtain ⟨a, y, rfl, hyi, hr⟩ := jv_at h1 lB (j := i) (by omega) rfl
    obtain ⟨y1, y2, y3⟩ := h3 y (List.mem_of_getElem? hyi)
    have hitem := fun sep hs => item_next (k := k) (ks := xks) (ts := ts) (i := i) op (textT d y.er) hl (htget i y hyi) sep hs
    have hbound : ∀ sep, (sep = if i = 0 then [] else [44]) → (l1 ++ sep ++ preT k xks i ++ textT d y.er).length ≤ 100000000000000 := fun sep hs => by
      have := joinC_le k xks ts (n := i + 1) (m := xl.length) (by omega)
      rw [hitem sep hs, List.length_append, List.length_append]; omega
    obtain ⟨tt, htt⟩ : ∃ tt, textT d y.er = tt := ⟨_, rfl⟩
    have hval := hval y
    rw [htt] at hitem hbound hval
    obtain ⟨yk, yb, yi, yt, yA, yl, yc, yA', yks, yc', rfl, _⟩ := y1.form
    refine ⟨⟨by omega, hq⟩, _, rfl, (JV.mk yk yb yi yt (.slice yA yl.length yc) yl (.slice yA' yks.length yc') yks).cells, rfl, hr.o, ?_⟩
    refine ⟨rfl, ?_⟩
    rcases hk with rfl | rfl
    · have hpre : preT 4 xks i = [] := rfl
      rw [hpre] at hitem hbound
      apply br_split
      · intro h0
        have h0 : (0 : Int) < i := h0
        have hs : ([44] : List UInt8) = if i = 0 then [] else [44] := by rw [if_neg (by omega)]
        have hitem := hitem _ hs
        have hbound := hbound _ hs
        rw [List.append_nil] at hitem hbound
        refine prn_wbyte (i := 1) (j := 0) 44 rfl rfl rfl (by decide) (.inr rfl) (by show l1.length + 1 ≤ _; omega) fun A2 d2 W6 l6 => ?_
        refine ⟨rfl, ?_⟩
        refine call_frame (vs := [bldP b, .agg ⟨(JV.mk yk yb yi yt (.slice yA yl.length yc) yl (.slice yA' yks.length yc') yks).cells⟩]) rfl fun W7 ex l7 => ?_
        refine hval _ W7 b _ A2 d2 (l1 ++ [44]) _ (y1.mono (lB.trans (l6.trans l7))) y2 y3 (hT.mono (lB.trans (l6.trans l7))) (.inr rfl) (by rw [List.length_append] at hbound; exact hbound) (fun σ' A8 d8 W8 l8 => ⟨_, rfl, fun W9 l9 => ?_⟩)
        exact ⟨rfl, _, inc, ⟨i + 1, bldP b, A8, d8, l1 ++ [44] ++ tt⟩, all_sl ⟨rfl, trivial⟩, rfl, ole_refl _, ⟨rfl, by dsimp only; omega, by dsimp only; exact hitem⟩, by dsimp only; omega⟩
      · intro h0
        have h0 : ¬ (0 : Int) < i := h0
        have hs : ([] : List UInt8) = if i = 0 then [] else [44] := by rw [if_pos (by omega)]
        have hitem := hitem _ hs
        have hbound := hbound _ hs
        rw [List.append_nil, List.append_nil] at hitem hbound
        refine ⟨rfl, ?_⟩
        refine call_frame (vs := [bldP b, .agg ⟨(JV.mk yk yb yi yt (.slice yA yl.length yc) yl (.slice yA' yks.length yc') yks).cells⟩]) rfl fun W7 ex l7 => ?_
        refine hval _ W7 b _ A1 c1 l1 _ (y1.mono (lB.trans l7)) y2 y3 (hT.mono (lB.trans l7)) (.inr rfl) (by rw [List.length_append] at hbound; exact hbound) (fun σ' A8 d8 W8 l8 => ⟨_, rfl, fun W9 l9 => ?_⟩)
        exact ⟨rfl, _, inc, ⟨i + 1, bldP b, A8, d8, l1 ++ tt⟩, all_sl ⟨rfl, trivial⟩, rfl, ole_refl _, ⟨rfl, by dsimp only; omega, by dsimp only; exact hitem⟩, by dsimp only; omega⟩
    · have hkl := hks rfl
      have hpre : preT 5 xks i = quoteT (xks.getD i []) ++ [58] := rfl
      obtain ⟨key, hkey⟩ : ∃ key, xks[i]? = some key := ⟨xks[i]'(by omega), List.getElem?_eq_getElem (by omega)⟩
      have hkd : xks.getD i [] = key := by rw [List.getD_eq_getElem?_getD, hkey]; (first | done | rfl)
      rw [hkd] at hpre
      rw [hpre] at hitem hbound
      have hkl2 := s3 key (List.mem_of_getElem? hkey)
      have hql := quoteT_len key
      obtain ⟨a2, e2, k2, hk2, _, hrk, _⟩ := RP.at (f := sC) (fun _ => rfl) h2 lB (j := (i : Int)) ⟨by omega, by omega⟩
      have e3 : k2 = key := by
        have : xks[(i : Int).toNat]? = some k2 := hk2
        rw [show (i : Int).toNat = i from rfl, hkey] at this
        exact (Option.some.inj this).symm
      subst e3
      obtain rfl : xA' = some a2 := e2
      apply br_split
      · intro h0
        have h0 : (0 : Int) < i := h0
        have hs : ([44] : List UInt8) = if i = 0 then [] else [44] := by rw [if_neg (by omega)]
        have hitem := hitem _ hs
        have hbound := hbound _ hs
        refine prn_wbyte (i := 1) (j := 0) 44 rfl rfl rfl (by decide) (.inr rfl) (by show l1.length + 1 ≤ _; omega) fun A2 d2 W6 l6 => ?_
        refine ⟨rfl, ⟨by omega, by show (i : Int) < xks.length; omega⟩, _, rfl, strV k2, ((hrk (by decide) _ rfl).mono l6).o, ?_⟩
        refine call_v rfl (fun W' _ => jquote_x k2 hkl2 W') (fun W7 v W8 l7 l8 hv => ?_)
        subst hv
        refine prn_write (i := 1) (j := 0) rfl rfl (by decide) (.inr rfl) (by rw [List.length_append]; show l1.length + 1 + (quoteT k2).length ≤ _; omega) fun A3 d3 _ => ?_
        refine prn_wbyte (i := 1) (j := 0) 58 rfl rfl rfl (by decide) (.inr rfl) (by rw [List.length_append, List.length_append]; show l1.length + 1 + (quoteT k2).length + 1 ≤ _; omega) fun A4 d4 W9 l9 => ?_
        have lC := lB.trans (l6.trans (l7.trans (l8.trans l9)))
        refine call_frame (vs := [bldP b, .agg ⟨(JV.mk yk yb yi yt (.slice yA yl.length yc) yl (.slice yA' yks.length yc') yks).cells⟩]) rfl fun W10 ex l10 => ?_
        refine hval _ W10 b _ A4 d4 (l1 ++ [44] ++ quoteT k2 ++ [58]) _ (y1.mono (lC.trans l10)) y2 y3 (hT.mono (lC.trans l10)) (.inr rfl) (by simp only [List.length_append] at hbound ⊢; omega) (fun σ' A8 d8 W11 l11 => ⟨_, rfl, fun W12 l12 => ?_⟩)
        exact ⟨rfl, _, inc, ⟨i + 1, bldP b, A8, d8, l1 ++ [44] ++ quoteT k2 ++ [58] ++ tt⟩, all_sl ⟨rfl, trivial⟩, rfl, ole_refl _, ⟨rfl, by dsimp only; omega, by dsimp only; rw [← hitem]; simp⟩, by dsimp only; omega⟩
      · intro h0
        have h0 : ¬ (0 : Int) < i := h0
        have hs : ([] : List UInt8) = if i = 0 then [] else [44] := by rw [if_pos (by omega)]
        have hitem := hitem _ hs
        have hbound := hbound _ hs
        refine ⟨rfl, ⟨by omega, by show (i : Int) < xks.length; omega⟩, _, rfl, strV k2, (hrk (by decide) _ rfl).o, ?_⟩
        refine call_v rfl (fun W' _ => jquote_x k2 hkl2 W') (fun W7 v W8 l7 l8 hv => ?_)
        subst hv
        refine prn_write (i := 1) (j := 0) rfl rfl (by decide) (.inr rfl) (by show l1.length + (quoteT k2).length ≤ _; omega) fun A3 d3 _ => ?_
        refine prn_wbyte (i := 1) (j := 0) 58 rfl rfl rfl (by decide) (.inr rfl) (by rw [List.length_append]; show l1.length + (quoteT k2).length + 1 ≤ _; omega) fun A4 d4 W9 l9 => ?_
        have lC := lB.trans (l7.trans (l8.trans l9))
        refine call_frame (vs := [bldP b, .agg ⟨(JV.mk yk yb yi yt (.slice yA yl.length yc) yl (.slice yA' yks.length yc') yks).cells⟩]) rfl fun W10 ex l10 => ?_
        refine hval _ W10 b _ A4 d4 (l1 ++ quoteT k2 ++ [58]) _ (y1.mono (lC.trans l10)) y2 y3 (hT.mono (lC.trans l10)) (.inr rfl) (by simp only [List.length_append] at hbound ⊢; omega) (fun σ' A8 d8 W11 l11 => ⟨_, rfl, fun W12 l12 => ?_⟩)
        exact ⟨rfl, _, inc, ⟨i + 1, bldP b, A8, d8, l1 ++ quoteT k2 ++ [58] ++ tt⟩, all_sl ⟨rfl, trivial⟩, rfl, ole_refl _, ⟨rfl, by dsimp only; omega, by dsimp only; rw [← hitem]; simp⟩, by dsimp only; omega⟩
  · have hq : ¬ (i : Int) < xl.length := hq
    obtain rfl : i = xl.length := by omega
    have he : l ++ ([op] ++ joinC (itemsT k xks ts xl.length) ++ [cl]) = l1 ++ [cl] := by rw [hl]; simp
    rw [he] at hK
    refine prn_wbyte (i := 1) (j := 0) cl hzc rfl rfl (by decide) (.inr rfl) (by show l1.length + 1 ≤ _; omega) fun A6 d6 W8 l8 => ?_
    exact ⟨_, rfl, hK _ A6 d6 W8 (lB.trans l8)⟩
set_option maxRecDepth 20000 in
set_option maxHeartbeats 16000000 in
theorem jvalue_p : ∀ d : Nat, d ≤ 100 → PrX d
  | 0, _ => fun x B W b p A c l K hx hs hr => by cases hr
  | d + 1, hd => fun x B W b p A c l K hx hs hr hT hu hlen hK => by
    have ih := jvalue_p d (by omega)
    obtain ⟨xk, xb, xi, xt, xA, xl, xc, xA', xks, xc', rfl, _⟩ := hx.form
    cases hx with
    | mk h1 h2 h3 =>
    cases hs with
    | mk s1 s2 s3 s4 s5 =>
    have hle : (JV.ers xl).length = xl.length := by rw [ers_map, List.length_map]
    rw [hle] at s4
    have hr2 : (if xk = 0 then bareB false false false false false xb xi xt (JV.ers xl).length xks.length
      else if xk = 1 then bareB true false false false false xb xi xt (JV.ers xl).length xks.length
      else if xk = 2 then bareB false true false false false xb xi xt (JV.ers xl).length xks.length && (decide (-9007199254740992 ≤ xi) && decide (xi ≤ 9007199254740992))
      else if xk = 3 then bareB false false true false false xb xi xt (JV.ers xl).length xks.length && Lib.validD xt
      else if xk = 4 then bareB false false false true false xb xi xt (JV.ers xl).length xks.length && (JV.ers xl).all (rightT d)
      else if xk = 5 then bareB false false false true true xb xi xt (JV.ers xl).length xks.length && decide ((xks.length : Int) = (JV.ers xl).length) && distinctT xks && (JV.ers xl).all (rightT d)
      else false) = true := hr
    have hin : (JV.ers xl).all (rightT d) = true → ∀ x ∈ xl, JOK W x ∧ Sm x.er ∧ rightT d x.er = true := fun ha x hx => by
      have hm : x.er ∈ JV.ers xl := by rw [ers_map]; exact List.mem_map_of_mem hx
      exact ⟨h3 x hx, s5 _ hm, List.all_eq_true.1 ha _ hm⟩
    obtain ⟨tt, htt, htt2⟩ : ∃ tt, textT (d + 1) (JV.mk xk xb xi xt (.slice xA xl.length xc) xl (.slice xA' xks.length xc') xks).er = tt ∧ tt = if xk = 0 then nullS' else if xk = 1 then (if xb = true then trueS' else falseS') else if xk = 2 then Lib.itoa xi else if xk = 3 then quoteT xt
      else if xk = 4 then [91] ++ joinC (itemsT 4 xks ((JV.ers xl).map (textT d)) xl.length) ++ [93]
      else if xk = 5 then [123] ++ joinC (itemsT 5 xks ((JV.ers xl).map (textT d)) xl.length) ++ [125] else [] := ⟨_, rfl, by rw [← hle]; (first | done | rfl)⟩
    rw [htt] at hlen hK
    clear htt hr
    by_cases e0 : xk = 0
    · subst e0
      rw [if_pos rfl] at htt2
      subst htt2
      refine call_inl (vs := [bldP b, .agg ⟨(JV.mk 0 xb xi xt (.slice xA xl.length xc) xl (.slice xA' xks.length xc') xks).cells⟩]) hmix Tryd.func91 r91 (by kernel_rfl) rfl rfl fun rc => ?_
      refine ⟨rfl, ?_⟩
      refine prn_write (i := 1) (j := 0) rfl rfl (by decide) hu (by show l.length + 4 ≤ _; omega) fun A1 d1 _ => ?_
      exact ⟨_, rfl, hK _ A1 d1 W (PW.Le.refl _)⟩
    rw [if_neg e0] at htt2 hr2
    by_cases e1 : xk = 1
    · subst e1
      rw [if_pos rfl] at htt2
      refine call_inl (vs := [bldP b, .agg ⟨(JV.mk 1 xb xi xt (.slice xA xl.length xc) xl (.slice xA' xks.length xc') xks).cells⟩]) hmix Tryd.func91 r91 (by kernel_rfl) rfl rfl fun rc => ?_
      refine ⟨rfl, rfl, ?_⟩
      refine call_v rfl (fun W' _ => fmtb_x xb W') (fun W7 v W8 l7 l8 hv => ?_)
      rw [← htt2] at hv
      subst hv
      refine prn_write (i := 1) (j := 0) rfl rfl (by decide) hu (by show l.length + tt.length ≤ _; omega) fun A1 d1 _ => ?_
      exact ⟨_, rfl, hK _ A1 d1 W8 (l7.trans l8)⟩
    rw [if_neg e1] at htt2 hr2
    by_cases e2 : xk = 2
    · subst e2
      rw [if_pos rfl] at htt2 hr2
      rw [Bool.and_eq_true, Bool.and_eq_true, decide_eq_true_eq, decide_eq_true_eq] at hr2
      obtain ⟨_, r1, r2⟩ := hr2
      refine call_inl (vs := [bldP b, .agg ⟨(JV.mk 2 xb xi xt (.slice xA xl.length xc) xl (.slice xA' xks.length xc') xks).cells⟩]) hmix Tryd.func91 r91 (by kernel_rfl) rfl rfl fun rc => ?_
      refine ⟨rfl, rfl, rfl, ?_⟩
      refine call_v rfl (fun W' lw => fmt_x xi (by omega) (by omega) W' (hT.mono lw)) (fun W7 v W8 l7 l8 hv => ?_)
      rw [← htt2] at hv
      subst hv
      refine prn_write (i := 1) (j := 0) rfl rfl (by decide) hu (by show l.length + tt.length ≤ _; omega) fun A1 d1 _ => ?_
      exact ⟨_, rfl, hK _ A1 d1 W8 (l7.trans l8)⟩
    rw [if_neg e2] at htt2 hr2
    by_cases e3 : xk = 3
    · subst e3
      rw [if_pos rfl] at htt2
      refine call_inl (vs := [bldP b, .agg ⟨(JV.mk 3 xb xi xt (.slice xA xl.length xc) xl (.slice xA' xks.length xc') xks).cells⟩]) hmix Tryd.func91 r91 (by kernel_rfl) rfl rfl fun rc => ?_
      refine ⟨rfl, rfl, rfl, rfl, ?_⟩
      refine call_v rfl (fun W' lw => jquote_x xt s1 W') (fun W7 v W8 l7 l8 hv => ?_)
      rw [← htt2] at hv
      subst hv
      refine prn_write (i := 1) (j := 0) rfl rfl (by decide) hu (by show l.length + tt.length ≤ _; omega) fun A1 d1 _ => ?_
      exact ⟨_, rfl, hK _ A1 d1 W8 (l7.trans l8)⟩
    rw [if_neg e3] at htt2 hr2
    by_cases e4 : xk = 4
    · subst e4
      rw [if_pos rfl] at htt2 hr2
      rw [Bool.and_eq_true] at hr2
      subst htt2
      refine call_inl (vs := [bldP b, .agg ⟨(JV.mk 4 xb xi xt (.slice xA xl.length xc) xl (.slice xA' xks.length xc') xks).cells⟩]) hmix Tryd.func91 r91 (by kernel_rfl) rfl rfl fun rc => ?_
      refine ⟨rfl, rfl, rfl, rfl, rfl, ?_⟩
      refine call_frame (vs := [bldP b, .agg ⟨(JV.mk 4 xb xi xt (.slice xA xl.length xc) xl (.slice xA' xks.length xc') xks).cells⟩, .int .u8 91, .int .u8 93]) rfl fun W7 ex l7 => ?_
      refine jall_p d ih 4 (.inl rfl) xb xi xt xA xl xc xA' xks xc' 91 93 _ W7 b p A c l _ (h1.mono l7) (h2.mono l7) (fun x hx => ⟨(hin hr2.2 x hx).1.mono l7, (hin hr2.2 x hx).2⟩) s3 s4 (fun h => by cases h) (hT.mono l7) hu hlen (fun σ' A8 d8 W8 l8 => ⟨_, rfl, fun W9 l9 => ?_⟩)
      exact ⟨_, rfl, hK _ A8 d8 W9 l9⟩
    rw [if_neg e4] at htt2 hr2
    by_cases e5 : xk = 5
    · subst e5
      rw [if_pos rfl] at htt2 hr2
      rw [Bool.and_eq_true, Bool.and_eq_true, Bool.and_eq_true, decide_eq_true_eq, hle] at hr2
      subst htt2
      refine call_inl (vs := [bldP b, .agg ⟨(JV.mk 5 xb xi xt (.slice xA xl.length xc) xl (.slice xA' xks.length xc') xks).cells⟩]) hmix Tryd.func91 r91 (by kernel_rfl) rfl rfl fun rc => ?_
      refine ⟨rfl, rfl, rfl, rfl, rfl, rfl, ?_⟩
      refine call_frame (vs := [bldP b, .agg ⟨(JV.mk 5 xb xi xt (.slice xA xl.length xc) xl (.slice xA' xks.length xc') xks).cells⟩, .int .u8 123, .int .u8 125]) rfl fun W7 ex l7 => ?_
      refine jall_p d ih 5 (.inr rfl) xb xi xt xA xl xc xA' xks xc' 123 125 _ W7 b p A c l _ (h1.mono l7) (h2.mono l7) (fun x hx => ⟨(hin hr2.2 x hx).1.mono l7, (hin hr2.2 x hx).2⟩) s3 s4 (fun _ => by have := hr2.1.1.2; omega) (hT.mono l7) hu hlen (fun σ' A8 d8 W8 l8 => ⟨_, rfl, fun W9 l9 => ?_⟩)
      exact ⟨_, rfl, hK _ A8 d8 W9 l9⟩
    rw [if_neg e5] at hr2
    cases hr2

/-! ## Print -/
def jprS (x : JT) : List UInt8 × Int := if rightT 16 x = true then (if 65536 < (textT 16 x).length then ([], 5) else (textT 16 x, 0)) else ([], 4)
theorem dec_ne (u : Nat) : Lib.decDigits u ≠ [] := by
  rw [Lib.decDigits]
  split <;> simp
theorem itoa_ne (v : Int) : Lib.itoa v ≠ [] := by
  unfold Lib.itoa
  split
  · simp
  · exact dec_ne _
theorem textT_ne {d : Nat} {x : JT} (h : rightT d x = true) : textT d x ≠ [] := by
  cases d with
  | zero => cases h
  | succ d =>
    obtain ⟨k, b, i, t, l, ks⟩ := x
    intro e
    by_cases e0 : k = 0
    · subst e0; cases e
    by_cases e1 : k = 1
    · subst e1; cases b <;> cases e
    by_cases e2 : k = 2
    · subst e2
      exact itoa_ne _ e
    by_cases e3 : k = 3
    · subst e3
      have e : quoteT t = [] := e
      simp [quoteT] at e
    by_cases e4 : k = 4
    · subst e4
      have e : [91] ++ joinC (itemsT 4 ks (l.map (textT d)) l.length) ++ [93] = [] := e
      simp at e
    by_cases e5 : k = 5
    · subst e5
      have e : [123] ++ joinC (itemsT 5 ks (l.map (textT d)) l.length) ++ [125] = [] := e
      simp at e
    simp [rightT, e0, e1, e2, e3, e4, e5] at h
set_option maxRecDepth 20000 in
set_option maxHeartbeats 8000000 in
theorem jprint_x (x : JV) (W : PW) (hx : JOK W x) (hs : Sm x.er) (hU : HU W) (hT : HTJ W) (hlen : rightT 16 x.er = true → (textT 16 x.er).length ≤ 100000000000000) : CallsX Tryd.prog 50 ⟨[.agg ⟨x.cells⟩]⟩ [] W fun v _ => v = .tuple ⟨[strV (jprS x.er).1, .int .i64 (jprS x.er).2]⟩ := by
  have hR := fun W' (lw : W.Le W') => jRight_x x W' (hx.mono lw) hs (hU.mono lw)
  have hV := jvalue_p 16 (by decide) x
  obtain ⟨R, hB⟩ : ∃ R, rightT 16 x.er = R := ⟨_, rfl⟩
  obtain ⟨tt, htt⟩ : ∃ tt, textT 16 x.er = tt := ⟨_, rfl⟩
  have hne : R = true → tt ≠ [] := fun h => htt ▸ textT_ne (hB.trans h)
  have hp : jprS x.er = if R = true then (if 65536 < tt.length then ([], 5) else (tt, 0)) else ([], 4) := by unfold jprS; rw [hB, htt]
  rw [hp]
  rw [hB] at hR hV hlen
  rw [htt] at hV hlen
  clear hp hB htt
  obtain ⟨xk, xb, xi, xt, xA, xl, xc, xA', xks, xc', rfl, _⟩ := hx.form
  refine pureNX hmix Tryd.func50 r50 (by kernel_rfl) [nilO 5 1] rfl [.agg ⟨(JV.mk xk xb xi xt (.slice xA xl.length xc) xl (.slice xA' xks.length xc') xks).cells⟩] rfl ?_
  refine call_v rfl hR (fun W2 v W3 l2 l3 hv => ?_)
  subst hv
  cases R with
  | false => exact ret_plain rfl fun _ _ => rfl
  | true =>
    have lA := l2.trans l3
    obtain ⟨ti, tz, e1, e2, e3⟩ := prn_info
    refine bld_alloc rfl e1 e2 e3 fun b _ => ?_
    refine call_frame (vs := [bldP b, .agg ⟨(JV.mk xk xb xi xt (.slice xA xl.length xc) xl (.slice xA' xks.length xc') xks).cells⟩]) rfl fun W7 ex l7 => ?_
    refine hV _ W7 b (.pointer none) none 0 [] _ (hx.mono (lA.trans l7)) hs rfl (hT.mono (lA.trans l7)) (.inl rfl) (by have := hlen rfl; show 0 + tt.length ≤ _; omega) (fun σ' A8 d8 W8 l8 => ⟨_, rfl, fun W9 l9 => ?_⟩)
    have hne := hne rfl
    have hlen := hlen rfl
    refine prn_len (i := 1) rfl ?_
    refine ⟨rfl, ?_⟩
    apply br_split
    · intro hn
      have hn : (65536 : Int) < (([] ++ tt).length : Int) := hn
      rw [List.nil_append] at hn
      exact ret_plain rfl fun _ _ => by rw [if_pos rfl, if_pos (by omega)]; (first | done | rfl)
    · intro hn
      have hn : ¬ (65536 : Int) < (([] ++ tt).length : Int) := hn
      rw [List.nil_append] at hn
      refine prn_str (i := 1) (j := 0) rfl rfl rfl hne (by show tt.length ≤ _; omega) fun g W10 hA hc l10 hF => ?_
      exact ret_plain rfl fun _ _ => by rw [if_pos rfl, if_neg (by omega)]; (first | done | rfl)
end Go.Proofs.YtkhgmmejgikgnaaDoor

/- Layer 6 (json), plain: a number nested in lists and maps. No program here. -/
namespace Go.Proofs.YtkhgmmejgikgnaaDoor
open Go.RowKit

def openK : Bool → List UInt8
  | true => [123, 34, 97, 34, 58]
  | false => [91]
def endK : Bool → UInt8
  | true => 125
  | false => 93
def opensK (ks : List Bool) : List UInt8 := (ks.map openK).flatten
def endsK (ks : List Bool) : List UInt8 := (ks.map endK).reverse
def textK : List Bool → List UInt8
  | [] => [49]
  | b :: r => openK b ++ (textK r ++ [endK b])
theorem opensK_snoc (ks : List Bool) (b : Bool) : opensK (ks ++ [b]) = opensK ks ++ openK b := by unfold opensK; simp
theorem endsK_snoc (ks : List Bool) (b : Bool) : endsK (ks ++ [b]) = endK b :: endsK ks := by unfold endsK; simp
theorem textK_eq : ∀ ks : List Bool, textK ks = opensK ks ++ [49] ++ endsK ks
  | [] => rfl
  | b :: r => by
    unfold textK
    rw [textK_eq r]
    unfold opensK endsK
    simp [List.append_assoc]
def valK : List Bool → JT
  | [] => .mk 2 false 1 [] [] []
  | false :: r => .mk 4 false 0 [] [valK r] []
  | true :: r => .mk 5 false 0 [] [valK r] [[97]]
theorem headK : ∀ ks : List Bool, ∃ c t, textK ks = c :: t ∧ (c = 49 ∨ c = 91 ∨ c = 123)
  | [] => ⟨49, [], rfl, .inl rfl⟩
  | false :: r => ⟨91, textK r ++ [93], rfl, .inr (.inl rfl)⟩
  | true :: r => ⟨123, [34, 97, 34, 58] ++ (textK r ++ [125]), rfl, .inr (.inr rfl)⟩
theorem intK : intJ [49] = some 1 := by kernel_rfl
theorem numK {rest : List UInt8} (h : ∀ c, rest.head? = some c → digJ c = false) : numJ (49 :: rest) = some (.mk 2 false 1 [] [] [], rest) := by
  have e : signsJ (49 :: rest) = [49] := by
    show (49 :: rest).takeWhile digJ = [49]
    rw [List.takeWhile_cons_of_pos (by decide)]
    cases rest with
    | nil => rfl
    | cons c t => rw [List.takeWhile_cons_of_neg (by rw [h c rfl]; decide)]
  unfold numJ
  rw [e, intK]; (first | done | rfl)
theorem skipK (ks : List Bool) (rest : List UInt8) : skipJ (textK ks ++ rest) = textK ks ++ rest := by
  obtain ⟨c, t, e, hc⟩ := headK ks
  rw [e]
  show List.dropWhile blankJ (c :: (t ++ rest)) = _
  rw [List.dropWhile_cons_of_neg]; (first | done | rfl)
  rcases hc with rfl | rfl | rfl <;> decide
theorem endJ_no (sign : UInt8) (ks : List Bool) (rest : List UInt8) (h : sign = 93 ∨ sign = 125) : endJ sign true (textK ks ++ rest) = some (some (textK ks ++ rest)) := by
  unfold endJ
  rw [skipK]
  obtain ⟨c, t, e, hc⟩ := headK ks
  rw [e, if_neg, if_pos rfl]
  show ¬ some c = some sign
  rcases hc with rfl | rfl | rfl <;> rcases h with rfl | rfl <;> decide
theorem endJ_yes (sign : UInt8) (first : Bool) (rest : List UInt8) (h : sign = 93 ∨ sign = 125) : skipJ (sign :: rest) = sign :: rest ∧ endJ sign first (sign :: rest) = some none := by
  have e : skipJ (sign :: rest) = sign :: rest := by
    show List.dropWhile blankJ (sign :: rest) = _
    rw [List.dropWhile_cons_of_neg]
    rcases h with rfl | rfl <;> decide
  refine ⟨e, ?_⟩
  unfold endJ
  rw [e, if_pos (show (sign :: rest).head? = some sign from rfl)]
theorem keyK (t : List UInt8) : keyJ [] ([34, 97, 34, 58] ++ t) = some ([97], t) := by
  have e : skipJ ([34, 97, 34, 58] ++ t) = 34 :: 97 :: 34 :: 58 :: t := rfl
  have e2 : textJ (34 :: 97 :: 34 :: 58 :: t) = some ([97], 58 :: t) := rfl
  unfold keyJ
  rw [e, e2]
  (first | done | rfl)
theorem valueK : ∀ (ks : List Bool) (d : Nat) (rest : List UInt8), (∀ c, rest.head? = some c → digJ c = false) → valueJ d (textK ks ++ rest) = if ks.length < d then some (valK ks, rest) else none
  | _, 0, _, _ => by rw [if_neg (by omega)]; (first | done | rfl)
  | [], d + 1, rest, h => by
    rw [if_pos (by simp)]
    show valueB (valueJ d) (skipJ (textK [] ++ rest)) = _
    rw [skipK]
    have h1 : ([49] ++ rest).take 4 ≠ nullS' := fun h => by simp [nullS'] at h
    have h2 : ([49] ++ rest).take 4 ≠ trueS' := fun h => by simp [trueS'] at h
    have h3 : ([49] ++ rest).take 5 ≠ falseS' := fun h => by simp [falseS'] at h
    show valueB (valueJ d) ([49] ++ rest) = _
    unfold valueB
    show (if ([49] ++ rest).take 4 = nullS' then _ else _) = _
    rw [if_neg h1, if_neg h2, if_neg h3, if_neg (by decide), if_neg (by decide), if_neg (by decide)]
    exact numK h
  | false :: r, d + 1, rest, h => by
    have e : (textK (false :: r) ++ rest) = 91 :: (textK r ++ (93 :: rest)) := by show 91 :: ((textK r ++ [93]) ++ rest) = _; rw [List.append_assoc]; (first | done | rfl)
    show valueB (valueJ d) (skipJ (textK (false :: r) ++ rest)) = _
    rw [skipK, e]
    have h1 : (91 :: (textK r ++ (93 :: rest))).take 4 ≠ nullS' := fun h => by simp [nullS'] at h
    have h2 : (91 :: (textK r ++ (93 :: rest))).take 4 ≠ trueS' := fun h => by simp [trueS'] at h
    have h3 : (91 :: (textK r ++ (93 :: rest))).take 5 ≠ falseS' := fun h => by simp [falseS'] at h
    have ih := valueK r d (93 :: rest) (fun c hc => by cases hc; decide)
    obtain ⟨k1, k2⟩ := endJ_yes 93 false rest (.inl rfl)
    unfold valueB
    show (if (91 :: (textK r ++ (93 :: rest))).take 4 = nullS' then _ else _) = _
    rw [if_neg h1, if_neg h2, if_neg h3, if_neg (by decide), if_pos rfl]
    obtain ⟨m, hm⟩ : ∃ m, (textK r ++ (93 :: rest)).length = m + 1 := ⟨(textK r ++ rest).length, by simp; omega⟩
    rw [hm]
    unfold listJ
    rw [show ([] : List JT).isEmpty = true from rfl, endJ_no 93 r _ (.inl rfl)]
    dsimp only
    rw [ih]
    by_cases hl : r.length < d
    · rw [if_pos hl, if_pos (by simp; omega)]
      dsimp only
      unfold listJ
      rw [show ([] ++ [valK r] : List JT).isEmpty = false from rfl, k2]
      dsimp only
      rw [k1]; (first | done | rfl)
    · rw [if_neg hl, if_neg (by simp; omega)]
  | true :: r, d + 1, rest, h => by
    have e : (textK (true :: r) ++ rest) = 123 :: ([34, 97, 34, 58] ++ (textK r ++ (125 :: rest))) := by show 123 :: ([34, 97, 34, 58] ++ ((textK r ++ [125]) ++ rest)) = _; rw [List.append_assoc (textK r)]; (first | done | rfl)
    show valueB (valueJ d) (skipJ (textK (true :: r) ++ rest)) = _
    rw [skipK, e]
    have ih := valueK r d (125 :: rest) (fun c hc => by cases hc; decide)
    obtain ⟨k1, k2⟩ := endJ_yes 125 false rest (.inr rfl)
    generalize hX : textK r ++ (125 :: rest) = X at ih
    have h1 : (123 :: ([34, 97, 34, 58] ++ X)).take 4 ≠ nullS' := fun h => by simp [nullS'] at h
    have h2 : (123 :: ([34, 97, 34, 58] ++ X)).take 4 ≠ trueS' := fun h => by simp [trueS'] at h
    have h3 : (123 :: ([34, 97, 34, 58] ++ X)).take 5 ≠ falseS' := fun h => by simp [falseS'] at h
    unfold valueB
    show (if (123 :: ([34, 97, 34, 58] ++ X)).take 4 = nullS' then _ else _) = _
    rw [if_neg h1, if_neg h2, if_neg h3, if_neg (by decide), if_neg (by decide), if_pos rfl]
    have e1 : endJ 125 true ([34, 97, 34, 58] ++ X) = some (some ([34, 97, 34, 58] ++ X)) := rfl
    obtain ⟨m, hm⟩ : ∃ m, ([34, 97, 34, 58] ++ X).length = m + 1 := ⟨([97, 34, 58] ++ X).length, rfl⟩
    rw [hm]
    unfold tableJ
    rw [show ([] : List JT).isEmpty = true from rfl, e1]
    dsimp only
    rw [keyK]
    dsimp only
    rw [ih]
    by_cases hl : r.length < d
    · rw [if_pos hl, if_pos (by simp; omega)]
      dsimp only
      unfold tableJ
      rw [show ([] ++ [valK r] : List JT).isEmpty = false from rfl, k2]
      dsimp only
      rw [k1]; (first | done | rfl)
    · rw [if_neg hl, if_neg (by simp; omega)]
theorem textK_len : ∀ ks : List Bool, (textK ks).length ≤ 1 + 6 * ks.length
  | [] => by decide
  | b :: r => by
    have := textK_len r
    unfold textK
    cases b <;> simp [openK] <;> omega
theorem textK_asc : ∀ (ks : List Bool) (b : UInt8), b ∈ textK ks → b.toNat < 128
  | [], b, h => by rw [List.mem_singleton.1 h]; decide
  | k :: r, b, h => by
    have ih := textK_asc r b
    unfold textK at h
    cases k with
    | false =>
      simp [openK, endK] at h
      rcases h with rfl | h | rfl
      · decide
      · exact ih h
      · decide
    | true =>
      simp [openK, endK] at h
      rcases h with rfl | rfl | rfl | rfl | rfl | h | rfl
      · decide
      · decide
      · decide
      · decide
      · decide
      · exact ih h
      · decide
theorem rightK : ∀ (ks : List Bool) (d : Nat), ks.length < d → rightT d (valK ks) = true
  | _, 0, h => by omega
  | [], d + 1, _ => rfl
  | false :: r, d + 1, h => by
    have ih := rightK r d (by simpa using h)
    show (bareB false false false true false false 0 [] 1 0 && [valK r].all (rightT d)) = true
    simp [bareB, ih]
  | true :: r, d + 1, h => by
    have ih := rightK r d (by simpa using h)
    have hd : distinctT [[97]] = true := by kernel_rfl
    show (bareB false false false true true false 0 [] 1 1 && decide ((1 : Int) = (1 : Nat)) && distinctT [[97]] && [valK r].all (rightT d)) = true
    simp [bareB, ih, hd]
theorem smK : ∀ ks : List Bool, Sm (valK ks)
  | [] => .mk (by decide) (by decide) (fun _ h => by cases h) (by decide) (fun _ h => by cases h)
  | false :: r => .mk (by decide) (by decide) (fun _ h => by cases h) (by show 1 ≤ 1000000; decide) (fun x h => by rw [List.mem_singleton.1 h]; exact smK r)
  | true :: r => .mk (by decide) (by decide) (fun _ h => by rw [List.mem_singleton.1 h]; decide) (by show 1 ≤ 1000000; decide) (fun x h => by rw [List.mem_singleton.1 h]; exact smK r)
end Go.Proofs.YtkhgmmejgikgnaaDoor

/- Layer 6 (json), walked: JsonDeep. -/
namespace Go.Proofs.YtkhgmmejgikgnaaDoor
open Go.RowKit

/-! ## Plain -/
theorem parse_K (ks : List Bool) (hl : ks.length ≤ 40) : parseJ (textK ks) = if ks.length ≤ 15 then (valK ks, 0) else (nullT, 4) := by
  have h1 := textK_len ks
  have h2 : Lib.validD (textK ks) = true := (Lib.validD_ascii (textK ks).length (textK ks) (fun b hb => textK_asc ks b (List.mem_of_mem_take hb))).trans (by rw [List.drop_length]; (first | done | rfl))
  have h3 := valueK ks 16 [] (fun c hc => by cases hc)
  rw [List.append_nil] at h3
  unfold parseJ
  rw [if_neg (by omega), h2, if_neg (by decide), h3]
  by_cases h : ks.length ≤ 15
  · rw [if_pos h, if_pos (by omega)]; (first | done | rfl)
  · rw [if_neg h, if_neg (by omega)]
theorem itoa1 : Lib.itoa 1 = [49] := by
  unfold Lib.itoa
  rw [if_neg (by decide)]
  show Lib.decDigits 1 = _
  rw [Lib.decDigits]; (first | done | rfl)
theorem live_text : textT 16 (valK [false]) = [91, 49, 93] := by
  show [91] ++ joinC (itemsT 4 [] [Lib.itoa 1] 1) ++ [93] = _
  rw [itoa1]; (first | done | rfl)
theorem live_print : jprS (valK [false]) = ([91, 49, 93], 0) := by
  unfold jprS
  rw [rightK [false] 16 (by decide), if_pos rfl, live_text, if_neg (by decide)]
theorem live_parse : parseJ [91, 49, 93] = (valK [false], 0) := parse_K [false] (by decide)
theorem opensK_len : ∀ ks : List Bool, (opensK ks).length ≤ 5 * ks.length
  | [] => Nat.le_refl _
  | b :: r => by
    have := opensK_len r
    unfold opensK at this ⊢
    cases b <;> simp [openK] at this ⊢ <;> omega
theorem endsK_len (ks : List Bool) : (endsK ks).length = ks.length := by unfold endsK; simp

/-! ## Walked -/
def oneV : JV := .mk 2 false 1 [] nilU [] nilU []
set_option maxRecDepth 200000 in
set_option maxHeartbeats 8000000 in
theorem jlives_x (W : PW) (hE : HE W) (hT : HTJ W) (hU : HU W) : CallsX Tryd.prog 48 ⟨[]⟩ [] W fun v _ => v = .bool true := by
  refine pureX hmix Tryd.func48 r48 (by kernel_rfl) [] rfl ?_
  refine call_v rfl (fun W' lw => jparse_x [91, 49, 93] (by decide) W' (hE.mono lw) (hT.mono lw) (hU.mono lw)) (fun W1 v W2 l1 l2 hv => ?_)
  have hv : PJR W2 v (valK [false], 0) := live_parse ▸ hv
  obtain ⟨x, hx, rfl, hxe⟩ := hv
  obtain ⟨xk, xb, xi, xt, xA, xl, xc, xA', xks, xc', rfl, _⟩ := hx.form
  obtain rfl : xk = 4 := by
    have h : JT.mk xk xb xi xt (JV.ers xl) xks = .mk 4 false 0 [] [valK []] [] := hxe
    injection h
  have l3 := l1.trans l2
  refine ⟨_, rfl, _, rfl, rfl, .inl fun g W3 l4 hr => ?_⟩
  refine call_v rfl (fun W' lw => jprint_x (.mk 4 false 0 [] (.slice (some ⟨g, 0, none⟩) 1 1) [oneV] nilU []) W' (.mk ⟨some ⟨g, 0, none⟩, 1, rfl, Nat.le_refl _, by decide, fun _ => ⟨_, rfl, Rds.mono hr lw⟩⟩ (RP.nil _ _) (fun x hx => by rw [List.mem_singleton.1 hx]; exact JOK.leaf _ _ _ _ _)) (smK [false]) (hU.mono (l3.trans (l4.trans lw))) (hT.mono (l3.trans (l4.trans lw)))
    (fun _ => by show (textT 16 (valK [false])).length ≤ _; rw [live_text]; decide)) (fun W5 v W6 l5 l6 hv => ?_)
  have hv : v = .tuple ⟨[strV (jprS (valK [false])).1, .int .i64 (jprS (valK [false])).2]⟩ := hv
  rw [live_print] at hv
  subst hv
  exact ⟨_, rfl, _, rfl, rfl, rfl, rfl, ret_plain rfl fun _ _ => rfl⟩
set_option maxRecDepth 200000 in
set_option maxHeartbeats 8000000 in
theorem jmust_x (s : List UInt8) (hs : s.length ≤ 1000000) (W : PW) (hE : HE W) (hT : HTJ W) (hU : HU W) : CallsX Tryd.prog 47 ⟨[strV s]⟩ [] W fun v W' => ∃ x : JV, JOK W' x ∧ v = .agg ⟨x.cells⟩ ∧ x.er = (parseJ s).1 := by
  have hP := fun W' (lw : W.Le W') => jparse_x s hs W' (hE.mono lw) (hT.mono lw) (hU.mono lw)
  obtain ⟨q, hq⟩ : ∃ q, parseJ s = q := ⟨_, rfl⟩
  rw [hq] at hP ⊢
  obtain ⟨q1, q2⟩ := q
  refine pureX hmix Tryd.func47 r47 (by kernel_rfl) [strV s] rfl ?_
  refine call_v rfl hP (fun W1 v W2 l1 l2 hv => ?_)
  obtain ⟨x, hx, rfl, hxe⟩ := hv
  obtain ⟨xk, xb, xi, xt, xA, xl, xc, xA', xks, xc', rfl, _⟩ := hx.form
  refine ⟨_, rfl, _, rfl, ?_⟩
  exact ret_plain rfl fun W' lw => ⟨_, hx.mono lw, rfl, hxe⟩
structure KSt where
  i : Nat
  ks : List Bool
set_option maxRecDepth 200000 in
set_option maxHeartbeats 16000000 in
theorem jdeep_x (n kinds : Int) (W : PW) (hE : HE W) (hT : HTJ W) (hU : HU W) : CallsX Tryd.prog 12 ⟨[.int .i64 n, .int .i64 kinds]⟩ [] W fun v _ => v = .bool true := by
  refine pureX hmix Tryd.func12 r12 (by kernel_rfl) [.int .i64 n, .int .i64 kinds] rfl ?_
  refine call_v rfl (fun W' _ => within_x n 0 40 W') (fun W1 v W2 l1 l2 hv => ?_)
  obtain ⟨m, hm, rfl⟩ : ∃ m : Nat, m ≤ 40 ∧ v = .int .i64 (m : Int) := by
    subst hv
    refine ⟨(if n < 0 then 0 else if 40 < n then 40 else n : Int).toNat, ?_, congrArg (Value.int .i64) ?_⟩ <;> (repeat' split) <;> omega
  have lA := l1.trans l2
  refine ⟨KSt, fun t => [(5, .v (strV (opensK t.ks))), (6, .v (strV (endsK t.ks))), (7, .v (.int .i64 t.i))], fun _ => [], fun _ => [], fun t _ => t.i ≤ m ∧ t.ks.length = t.i, fun t => m - t.i, ⟨0, []⟩,
    all_sl ⟨rfl, rfl, rfl, trivial⟩, rfl, ole_refl _, ⟨Nat.zero_le _, rfl⟩, loopOK (fun _ => ⟨⟨trivial, rfl⟩, ⟨trivial, rfl⟩, ⟨trivial, rfl⟩, trivial⟩) (fun _ => rfl) (fun _ => rfl), ?_⟩
  rintro ⟨i, ks⟩ W5 l5 ⟨hi, hk⟩ fr
  dsimp only at hi hk
  have ho := opensK_len ks
  have he := endsK_len ks
  have lB := lA.trans l5
  refine ⟨rfl, br_split (fun hq => ?_) (fun hq => ?_)⟩
  · have hq : (i : Int) < m := hq
    have inc := (i64_in ((i : Int) + 1) ⟨by omega, by omega⟩).symm
    obtain ⟨w, hw, hw0⟩ : ∃ w : Int, w = IntKind.u64.wrap (i : Int) ∧ 0 ≤ w := ⟨_, rfl, by rw [IntKind.wrap_u64]; omega⟩
    obtain ⟨r1, hr1⟩ : ∃ r : Int, r = shV .shr .i64 kinds w := ⟨_, rfl⟩
    obtain ⟨r2, hr2⟩ : ∃ r, Op.intBits .and .i64 r1 1 = pure (.int .i64 r) := ⟨_, rfl⟩
    refine ⟨rfl, br_yes (p := (i : Int) < 62) (by omega) ⟨w, hw, hw0, r1, hr1, rfl, r2, hr2, rfl, ?_⟩⟩
    apply br_split
    · intro _
      refine ⟨by show ((opensK ks).length : Int) + 5 ≤ _; omega, by show (1 : Int) + (endsK ks).length ≤ _; omega, rfl, _, inc, ⟨i + 1, ks ++ [true]⟩, all_sl ⟨?_, ?_, rfl, trivial⟩, rfl, ole_refl _, ⟨by dsimp only; omega, by dsimp only; rw [List.length_append, hk]; (first | done | rfl)⟩, by dsimp only; omega⟩
      · dsimp only; rw [opensK_snoc]; (first | done | rfl)
      · dsimp only; rw [endsK_snoc]; (first | done | rfl)
    · intro _
      refine ⟨by show ((opensK ks).length : Int) + 1 ≤ _; omega, by show (1 : Int) + (endsK ks).length ≤ _; omega, rfl, _, inc, ⟨i + 1, ks ++ [false]⟩, all_sl ⟨?_, ?_, rfl, trivial⟩, rfl, ole_refl _, ⟨by dsimp only; omega, by dsimp only; rw [List.length_append, hk]; (first | done | rfl)⟩, by dsimp only; omega⟩
      · dsimp only; rw [opensK_snoc]; (first | done | rfl)
      · dsimp only; rw [endsK_snoc]; (first | done | rfl)
  · have hq : ¬ (i : Int) < m := hq
    obtain rfl : i = m := by omega
    have htl : (opensK ks ++ [49] ++ endsK ks).length ≤ 1000000 := by simp; omega
    refine ⟨by show ((opensK ks).length : Int) + 1 ≤ _; omega, by show ((opensK ks ++ [49]).length : Int) + (endsK ks).length ≤ _; rw [List.length_append]; show (((opensK ks).length + 1 : Nat) : Int) + _ ≤ _; omega, ?_⟩
    refine call_v rfl (fun W' lw => jparse_x (opensK ks ++ [49] ++ endsK ks) htl W' (hE.mono (lB.trans lw)) (hT.mono (lB.trans lw)) (hU.mono (lB.trans lw))) (fun W6 v W7 l6 l7 hv => ?_)
    rw [← textK_eq, parse_K ks (by omega)] at hv
    have lC := lB.trans (l6.trans l7)
    have hlast : ∀ {B : Base} {S : GS} {K : GV → GS → Prop}, W.Le S.W → (∀ W', S.W.Le W' → K (.v (.bool true)) (S.setW W')) → CallVC Tryd.prog B 48 [] [] S K := by
      intro B S K lw hK
      exact call_v rfl (fun W' lw' => jlives_x W' (hE.mono (lw.trans lw')) (hT.mono (lw.trans lw')) (hU.mono (lw.trans lw'))) (fun W8 v W9 l8 l9 hv => hv ▸ hK W9 (l8.trans l9))
    by_cases hd : ks.length ≤ 15
    · rw [if_pos hd] at hv
      obtain ⟨x, hx, rfl, hxe⟩ := hv
      obtain ⟨xk, xb, xi, xt, xA, xl, xc, xA', xks, xc', rfl, _⟩ := hx.form
      refine ⟨_, rfl, _, rfl, rfl, rfl, ?_⟩
      refine br_t (by rw [decide_eq_true (show (i : Int) ≤ 15 by omega)]; (first | done | rfl)) ⟨rfl, ?_⟩
      apply br_split
      · intro _
        refine hlast lC fun W' _ => ?_
        exact ret_plain rfl fun _ _ => rfl
      · intro _
        refine ⟨rfl, by show ((opensK ks).length : Int) + 1 ≤ _; omega, by show ((opensK ks ++ [49]).length : Int) + (endsK ks).length ≤ _; rw [List.length_append]; show (((opensK ks).length + 1 : Nat) : Int) + _ ≤ _; omega, ?_⟩
        refine call_v rfl (fun W' lw => jmust_x (opensK ks ++ [49] ++ endsK ks) htl W' (hE.mono (lC.trans lw)) (hT.mono (lC.trans lw)) (hU.mono (lC.trans lw))) (fun W8 v W9 l8 l9 hv => ?_)
        rw [← textK_eq, parse_K ks (by omega), if_pos hd] at hv
        obtain ⟨y, hy, rfl, hye⟩ := hv
        have lD := lC.trans (l8.trans l9)
        refine call_v rfl (fun W' lw => jRight_x y W' (hy.mono lw) (hye ▸ smK ks) (hU.mono (lD.trans lw))) (fun W10 v W11 l10 l11 hv => ?_)
        rw [hye, rightK ks 16 (by omega)] at hv
        subst hv
        refine hlast (lD.trans (l10.trans l11)) fun W' _ => ?_
        exact ret_plain rfl fun _ _ => rfl
    · rw [if_neg hd] at hv
      obtain ⟨x, hx, rfl, hxe⟩ := hv
      obtain ⟨xk, xb, xi, xt, xA, xl, xc, xA', xks, xc', rfl, _⟩ := hx.form
      refine ⟨_, rfl, _, rfl, rfl, rfl, ?_⟩
      refine br_t (by rw [decide_eq_false (show ¬ (i : Int) ≤ 15 by omega)]; (first | done | rfl)) ⟨rfl, ?_⟩
      refine br_no (p := (i : Int) = 0) (by omega) ⟨rfl, ?_⟩
      refine hlast lC fun W' _ => ?_
      exact ret_plain rfl fun _ _ => rfl
end Go.Proofs.YtkhgmmejgikgnaaDoor
