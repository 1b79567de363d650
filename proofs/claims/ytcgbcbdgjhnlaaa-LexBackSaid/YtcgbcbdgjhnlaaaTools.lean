/- Small laws by which conditions are worked off. -/
import Derived.Test.YtcgbcbdgjhnlaaaEntry
import Derived.Test.YtcgbcbdgjhnlaaaChecked
namespace Go.Proofs.Ytcgbcbdgjhnlaaa
open Go.RowKit

theorem br_split {p : Prop} {d : Decidable p} {X Y : Prop} (h1 : p → X) (h2 : ¬ p → Y) : Branch X Y (@decide p d) := by
  by_cases h : p
  · rw [decide_eq_true h]; exact h1 h
  · rw [decide_eq_false h]; exact h2 h
theorem br_nsplit {p : Prop} {d : Decidable p} {X Y : Prop} (h1 : ¬ p → X) (h2 : p → Y) : Branch X Y (!@decide p d) := by
  by_cases h : p
  · rw [decide_eq_true h]; exact h2 h
  · rw [decide_eq_false h]; exact h1 h
theorem br_bool {b : Bool} {X Y : Prop} (h1 : b = true → X) (h2 : b = false → Y) : Branch X Y b := by
  cases b
  · exact h2 rfl
  · exact h1 rfl
theorem br_yes {p : Prop} {d : Decidable p} {X Y : Prop} (h : p) (h1 : X) : Branch X Y (@decide p d) := br_split (fun _ => h1) (fun n => absurd h n)
theorem br_no {p : Prop} {d : Decidable p} {X Y : Prop} (h : ¬ p) (h1 : Y) : Branch X Y (@decide p d) := br_split (fun n => absurd n h) (fun _ => h1)

theorem i64_in (n : Int) (h : -9223372036854775808 ≤ n ∧ n ≤ 9223372036854775807) : IntKind.i64.wrap n = n := by rw [IntKind.wrap_i64]; omega
theorem u8_in (n : Int) (h : 0 ≤ n ∧ n ≤ 255) : IntKind.u8.wrap n = n := by rw [IntKind.wrap_u8]; omega

theorem hmix : Try.prog.follows .mixedOrders = true := by kernel_rfl

section
variable {P : Program} {B : Base} {ρ : Nat → Nat} {S : GS} {w : World}

/-- The call's answer is plain, what is known of worlds holds on. -/
theorem CallsX.adv {fid : FuncId} {args : Array Value} {ex : List Nat} {W : PW} {R : Value → PW → Prop} (h : CallsX P fid args ex W R) : CallsX P fid args ex W fun v W' => W.Le W' ∧ R v W' := h.after fun _ _ hl hr => ⟨hl, hr⟩

/-- A call that is answered by one value. -/
theorem call_v {fid : FuncId} {args : List GV} {vs : List Value} {prot : List Nat} {K : GV → GS → Prop} {R : PW → Value → PW → Prop} (hp : plainGs args = some vs) (hc : ∀ W', S.W.Le W' → CallsX P fid ⟨vs⟩ [] W' (R W')) (hK : ∀ W' v W'', S.W.Le W' → W'.Le W'' → R W' v W'' → K (.v v) (S.setW W'')) : CallVC P B fid args prot S K :=
  call_pure hp fun W' h => (hc W' h).after fun v W'' hl hr _ => hK W' v W'' h hl hr

/-- What is handed out is owned by the caller from now on. -/
theorem ret_own {gs : List GV} {v : Value} {R : Value → PW → Prop} {xs : List Nat} {i : Nat} {o : Own} (hex : B.ex = B.rc ++ xs) (h : plainRet gs = some v) (hi : S.O[i]? = some o) (hR : ∀ W', S.W.Le W' → OwnS xs B.W.w.heap.size W' o → R v W') : RetVC B gs R S :=
  ⟨fun ρ _ hst => ⟨hst.here, rfl, hst.adv, by
    rw [plainRet_real h ρ]
    obtain ⟨h1, h2⟩ := hst.own i o hi
    refine hR _ hst.le_here ⟨h1, fun b hb => ⟨(h2 b hb).1, ?_⟩⟩
    rcases (h2 b hb).2.1 with h3 | h3
    · rw [hex] at h3
      rcases List.mem_append.1 h3 with h3 | h3
      · obtain ⟨k, hk⟩ := List.getElem?_of_mem h3
        obtain ⟨r1, r2⟩ := hst.rc k b hk
        exact absurd r2 ((h2 b hb).2.2 k r1)
      · exact .inl h3
    · exact .inr h3⟩⟩
/-- A method hands out what is owned. -/
theorem ret_m1own {gs : List GV} {v : Value} {R : Value → PW → Prop} {g : Nat} {cs : List PV} {vs : List Value} {xs : List Nat} {i : Nat} {o : Own} (hex : B.ex = B.rc ++ xs) (h : plainRet gs = some v) (hrc : B.rc[0]? = some g) (hk : S.σ[0]? = some cs) (hp : plainCells cs = some vs) (hi : S.O[i]? = some o)
    (hR : ∀ W', S.W.Le W' → OwnB W' g vs → OwnS xs B.W.w.heap.size W' o → R v W') : RetVC B gs R S := by
  refine ⟨fun ρ w hst => ?_⟩
  have hb := hst.ownB hk hp
  rw [(hst.rc 0 g hrc).2] at hb
  exact ⟨hst.here, rfl, hst.adv, by
    rw [plainRet_real h ρ]
    obtain ⟨h1, h2⟩ := hst.own i o hi
    refine hR _ hst.le_here hb ⟨h1, fun b hb => ⟨(h2 b hb).1, ?_⟩⟩
    rcases (h2 b hb).2.1 with h3 | h3
    · rw [hex] at h3
      rcases List.mem_append.1 h3 with h3 | h3
      · obtain ⟨k, hk⟩ := List.getElem?_of_mem h3
        obtain ⟨r1, r2⟩ := hst.rc k b hk
        exact absurd r2 ((h2 b hb).2.2 k r1)
      · exact .inl h3
    · exact .inr h3⟩

theorem St.init0O {W : PW} {o : Own} (h : OwnS o.v.ownBlock.toList W.w.heap.size W o) (ρ : Nat → Nat) : St ⟨W, o.v.ownBlock.toList, []⟩ ρ ⟨[], [o], W⟩ W.w := by
  refine ⟨Keep.refl _ _, Nat.le_refl _, fun _ _ => rfl, PW.Le.refl _, fun _ h => .inl h, fun k cs h => (by simp at h), fun k h => (by cases h), fun j k h => (by cases h), fun k cs h => (by simp at h), fun k g h => (by simp at h), fun i oi hi => ?_, fun i j oi oj b hi hj _ _ => ?_⟩
  · cases i with
    | zero =>
      simp only [List.getElem?_cons_zero, Option.some.injEq] at hi
      subst hi
      exact ⟨h.1, fun b hb => ⟨(h.2 b hb).1, (h.2 b hb).2, fun k hk => (by cases hk)⟩⟩
    | succ i => simp at hi
  · cases i <;> cases j <;> simp_all

theorem St.init1O {W : PW} {g : Nat} {vs : List Value} {o : Own} (hg : OwnB W g vs) (h : OwnS o.v.ownBlock.toList W.w.heap.size W o) (hne : g ∉ o.v.ownBlock.toList) : St ⟨W, g :: o.v.ownBlock.toList, [g]⟩ (fun _ => g) ⟨[vs.map .v], [o], W⟩ W.w := by
  have h0 := St.init1 hg
  refine ⟨Keep.refl _ _, Nat.le_refl _, fun _ _ => rfl, PW.Le.refl _, fun _ h => .inl h, h0.loc, fun k hk => ⟨hg.2, .inl (List.mem_cons_self ..)⟩, h0.inj, h0.cells, h0.rc, fun i oi hi => ?_, fun i j oi oj b hi hj _ _ => ?_⟩
  · cases i with
    | zero =>
      simp only [List.getElem?_cons_zero, Option.some.injEq] at hi
      subst hi
      refine ⟨h.1, fun b hb => ⟨(h.2 b hb).1, (h.2 b hb).2.imp (List.mem_cons_of_mem _) id, fun k hk e => hne ?_⟩⟩
      rw [e, hb]; simp
    | succ i => simp at hi
  · cases i <;> cases j <;> simp_all

theorem ownX (hmix : P.follows .mixedOrders = true) {fid : FuncId} {fn : Func} {mf : MF} (hf : P.funcs[fid]? = some fn) (hm : resF P fn = some mf) (hname : (fn.name == "runtime.NumGoroutine") = false) {W : PW} {o : Own} (ho : OwnS o.v.ownBlock.toList W.w.heap.size W o) (vals : List Value) (hlen : Nat.ble vals.length mf.N = true) {R : Value → PW → Prop}
    (hvc : vc P ⟨W, o.v.ownBlock.toList, []⟩ mf.code (initV vals) ⟨[], [o], W⟩ (retK ⟨W, o.v.ownBlock.toList, []⟩ mf.rs R)) : CallsX P fid ⟨vals⟩ o.v.ownBlock.toList W R :=
  callsX_of_vc hmix hf hm hname ⟨W, o.v.ownBlock.toList, []⟩ [] [o] id (initV vals) vals (St.init0O ho id) (Nat.le_refl _) (fun _ => trivial) (fun _ => rfl) (ble_le hlen) hvc

theorem methOX (hmix : P.follows .mixedOrders = true) {fid : FuncId} {fn : Func} {mf : MF} (hf : P.funcs[fid]? = some fn) (hm : resF P fn = some mf) (hname : (fn.name == "runtime.NumGoroutine") = false) {W : PW} {g : Nat} {vs : List Value} {o : Own} (hown : OwnB W g vs) (ho : OwnS o.v.ownBlock.toList W.w.heap.size W o) (hne : g ∉ o.v.ownBlock.toList) (vals : List Value) (hlen : Nat.ble (vals.length + 1) mf.N = true) {R : Value → PW → Prop}
    (hvc : vc P ⟨W, g :: o.v.ownBlock.toList, [g]⟩ mf.code (initM vals) ⟨[vs.map .v], [o], W⟩ (retK ⟨W, g :: o.v.ownBlock.toList, [g]⟩ mf.rs R)) : CallsX P fid ⟨.pointer (some ⟨g, 0, none⟩) :: vals⟩ (g :: o.v.ownBlock.toList) W R :=
  callsX_of_vc hmix hf hm hname ⟨W, g :: o.v.ownBlock.toList, [g]⟩ _ [o] (fun _ => g) (initM vals) _ (St.init1O hown ho hne) (Nat.le_refl _) (fun i => by cases i <;> first | exact Nat.zero_lt_one | trivial)
    (fun i => by cases i <;> rfl) (ble_le (by simpa using hlen)) hvc

/-! ### Loops -/
def AllSl (f : Fr) : List (Nat × GV) → Prop
  | [] => True
  | p :: r => f p.1 = p.2 ∧ AllSl f r
theorem all_sl {f : Fr} : ∀ {l : List (Nat × GV)}, AllSl f l → ∀ p, p ∈ l → f p.1 = p.2
  | [], _, p, h => by cases h
  | a :: r, hl, p, h => (List.mem_cons.1 h).elim (fun e => e ▸ hl.1) (all_sl hl.2 p)
def SlOK (n : Nat) (wr : List (Nat × Nat)) : List (Nat × GV) → Prop
  | [] => True
  | p :: r => (p.2.lt n ∧ inR wr p.1 = true) ∧ SlOK n wr r
theorem slOK_mem {n : Nat} {wr : List (Nat × Nat)} : ∀ {l : List (Nat × GV)}, SlOK n wr l → ∀ p, p ∈ l → p.2.lt n ∧ inR wr p.1 = true
  | [], _, p, h => by cases h
  | a :: r, hl, p, h => (List.mem_cons.1 h).elim (fun e => e ▸ hl.1) (slOK_mem hl.2 p)
/-- Variables that hold values alone. -/
def valsB : List PV → Bool
  | [] => true
  | .v _ :: r => valsB r
  | .lp _ _ :: _ => false
def allVals : List (List PV) → Bool
  | [] => true
  | l :: r => valsB l && allVals r
theorem valsB_lt {n : Nat} : ∀ {l : List PV}, valsB l = true → ∀ c, c ∈ l → c.lt n
  | [], _, c, h => by cases h
  | .v x :: r, hl, c, h => (List.mem_cons.1 h).elim (fun e => by subst e; trivial) (valsB_lt (by simpa [valsB] using hl) c)
  | .lp _ _ :: _, hl, c, h => by simp [valsB] at hl
theorem valsB_map (l : List Value) : valsB (l.map .v) = true := by
  induction l with
  | nil => rfl
  | cons a r ih => simpa [valsB] using ih
theorem allVals_lt {n : Nat} : ∀ {l : List (List PV)}, allVals l = true → ∀ cs, cs ∈ l → ∀ c, c ∈ cs → c.lt n
  | [], _, cs, h => by cases h
  | a :: r, hl, cs, h => by
    simp only [allVals, Bool.and_eq_true] at hl
    exact (List.mem_cons.1 h).elim (fun e => e ▸ valsB_lt hl.1) (allVals_lt hl.2 cs)
theorem loopOK {n : Nat} {wr : List (Nat × Nat)} {τ : Type} {sl : τ → List (Nat × GV)} {σ : τ → List (List PV)} (h1 : ∀ t, SlOK n wr (sl t)) (h2 : ∀ t, (σ t).length = n) (h3 : ∀ t, allVals (σ t) = true) : LoopOK n wr sl σ :=
  fun t => ⟨slOK_mem (h1 t), h2 t, allVals_lt (h3 t)⟩
theorem ole_refl (O : List Own) : OLe O O := List.filter_sublist
theorem ole_nils {O : List Own} (h : O.all Own.isNil = true) : OLe [] O := by
  have : O.filter (fun o => !o.isNil) = [] := List.filter_eq_nil_iff.2 fun o ho => by simp [List.all_eq_true.1 h o ho]
  unfold OLe; rw [this]; exact List.Sublist.refl _
def nilO (e : TypeId) (sz : Nat) : Own := ⟨.slice none 0 0, e, sz, 0, []⟩

/-- A function that will append to slices that are nil: these are owned. -/
theorem pureNX (hmix : P.follows .mixedOrders = true) {fid : FuncId} {fn : Func} {mf : MF} (hf : P.funcs[fid]? = some fn) (hm : resF P fn = some mf) (hname : (fn.name == "runtime.NumGoroutine") = false) {W : PW} (O : List Own) (hO : O.all Own.isNil = true) (vals : List Value) (hlen : Nat.ble vals.length mf.N = true) {R : Value → PW → Prop}
    (hvc : vc P ⟨W, [], []⟩ mf.code (initV vals) ⟨[], O, W⟩ (retK ⟨W, [], []⟩ mf.rs R)) : CallsX P fid ⟨vals⟩ [] W R :=
  callsX_of_vc hmix hf hm hname ⟨W, [], []⟩ [] O id (initV vals) vals ((St.init0 W id).ole (ole_nils hO)) (Nat.le_refl _) (fun _ => trivial) (fun _ => rfl) (ble_le hlen) hvc
theorem methNX (hmix : P.follows .mixedOrders = true) {fid : FuncId} {fn : Func} {mf : MF} (hf : P.funcs[fid]? = some fn) (hm : resF P fn = some mf) (hname : (fn.name == "runtime.NumGoroutine") = false) {W : PW} {g : Nat} {vs : List Value} (hown : OwnB W g vs) (O : List Own) (hO : O.all Own.isNil = true) (vals : List Value) (hlen : Nat.ble (vals.length + 1) mf.N = true) {R : Value → PW → Prop}
    (hvc : vc P ⟨W, [g], [g]⟩ mf.code (initM vals) ⟨[vs.map .v], O, W⟩ (retK ⟨W, [g], [g]⟩ mf.rs R)) : CallsX P fid ⟨.pointer (some ⟨g, 0, none⟩) :: vals⟩ [g] W R :=
  callsX_of_vc hmix hf hm hname ⟨W, [g], [g]⟩ _ O (fun _ => g) (initM vals) _ ((St.init1 hown).ole (ole_nils hO)) (Nat.le_refl _) (fun i => by cases i <;> first | exact Nat.zero_lt_one | trivial)
    (fun i => by cases i <;> rfl) (ble_le (by simpa using hlen)) hvc

/-! ### Reads -/
theorem SlRead.get {W W' : PW} {A : Option Addr} {n c : Nat} {cs : List Value} (h : SlRead W (.slice A n c) n cs) (l : W.Le W') {j : Int} (hj : 0 ≤ j ∧ j < n) (sz : Nat) :
    ∃ a, A = some a ∧ (∀ (off : Nat) (v : Value), cs[j.toNat * sz + off]? = some v → Rd W' ((a.add (j.toNat * sz)).add off) v) ∧ ∀ v, cs[j.toNat * sz]? = some v → Rd W' (a.add (j.toNat * sz)) v := by
  obtain ⟨A', c', e, h1, h2, h3⟩ := h
  simp only [Value.slice.injEq] at e
  obtain ⟨rfl, _, rfl⟩ := e
  obtain ⟨a, ha, hr⟩ := h3 (by omega)
  refine ⟨a, ha, fun off v hv => ?_, fun v hv => (hr _ v hv).mono l⟩
  rw [Addr.add_add]
  exact (hr _ v hv).mono l
theorem SlRead.form {W : PW} {v : Value} {n : Nat} {cs : List Value} (h : SlRead W v n cs) : ∃ A c, v = .slice A n c ∧ n ≤ c ∧ c ≤ maxLen := by
  obtain ⟨A, c, e, h1, h2, _⟩ := h; exact ⟨A, c, e, h1, h2⟩
theorem SlRead.nil (W : PW) (cs : List Value) : SlRead W (.slice none 0 0) 0 cs := ⟨none, 0, rfl, Nat.le_refl _, Nat.zero_le _, fun h => absurd h (Nat.lt_irrefl 0)⟩
theorem SlRead.of_rds {W : PW} {b n : Nat} {cs : List Value} (h : Rds W ⟨b, 0, none⟩ cs) (hn : n ≤ maxLen) : SlRead W (.slice (some ⟨b, 0, none⟩) n n) n cs :=
  ⟨_, _, rfl, Nat.le_refl _, hn, fun _ => ⟨_, rfl, h⟩⟩

def strV (l : List UInt8) : Value := .string ⟨⟨l⟩⟩
theorem strV_eta (s : ByteArray) : strV s.data.toList = .string s := rfl
def RStrs (W : PW) (v : Value) (ls : List (List UInt8)) : Prop := SlRead W v ls.length (ls.map strV)
theorem RStrs.mono {W W' : PW} {v : Value} {ls : List (List UInt8)} (h : RStrs W v ls) (l : W.Le W') : RStrs W' v ls := SlRead.mono h l

end
end Go.Proofs.Ytcgbcbdgjhnlaaa
