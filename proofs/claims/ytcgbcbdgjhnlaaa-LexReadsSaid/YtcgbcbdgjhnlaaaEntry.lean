/- Functions: from conditions to a contract; calls and returns by contracts. -/
import Derived.Test.YtcgbcbdgjhnlaaaRun
namespace Go.Proofs.Ytcgbcbdgjhnlaaa
open Go.RowKit

def initF (gs : List GV) : Fr := fun i => gs.getD i (.v undef)
def initV (vs : List Value) : Fr := fun i => .v (vs.getD i undef)
def initM (vs : List Value) : Fr := fun i => match i with | 0 => .lp 0 0 | i + 1 => .v (vs.getD i undef)

/-- What a function's result slots hold. -/
def resG (f : Fr) (S : GS) : List RV → Option (List GV)
  | [] => some []
  | .tmp t :: r => match resG f S r with | some l => some (f t :: l) | none => none
  | .cell t n :: r => match f t, resG f S r with
    | .lp k 0, some l => match S.σ[k]? with
      | some cs => match Nat.beq cs.length n with | true => some (.ag cs :: l) | false => none
      | none => none
    | _, _ => none
def retVal (ρ : Nat → Nat) : List GV → Value
  | [g] => g.real ρ
  | l => .tuple ⟨l.map (GV.real ρ)⟩
structure RetVC (B : Base) (gs : List GV) (R : Value → PW → Prop) (S : GS) : Prop where
  run : ∀ ρ w, St B ρ S w → ∃ W', W'.w = w ∧ Adv B.ex B.W W' ∧ R (retVal ρ gs) W'
def retK (B : Base) (rs : List RV) (R : Value → PW → Prop) : Ex → Fr → GS → Prop
  | .exit _, _, _ => False
  | _, f, S => match resG f S rs with | some l => RetVC B l R S | none => False

/-- A block that the caller holds: its cells. -/
def OwnB (W : PW) (g : Nat) (vs : List Value) : Prop := (∃ e, W.w.heap[g]? = some (.cells ⟨vs⟩ e (0, 0))) ∧ ¬ W.A g
/-- A slice whose elements are never written again. -/
def SlRead (W : PW) (v : Value) (n : Nat) (cs : List Value) : Prop := ∃ A c, v = .slice A n c ∧ n ≤ c ∧ c ≤ maxLen ∧ (0 < n → ∃ a, A = some a ∧ Rds W a cs)
theorem SlRead.mono {W W' : PW} {v : Value} {n : Nat} {cs : List Value} (h : SlRead W v n cs) (l : W.Le W') : SlRead W' v n cs := by
  obtain ⟨A, c, h1, h2, h3, h4⟩ := h
  exact ⟨A, c, h1, h2, h3, fun hn => let ⟨a, e, hr⟩ := h4 hn; ⟨a, e, hr.mono l⟩⟩

section
variable {P : Program} {B : Base}

theorem CallsX.mono {fid : FuncId} {args : Array Value} {ex : List Nat} {W : PW} {R R' : Value → PW → Prop} (h : CallsX P fid args ex W R) (hr : ∀ v W', R v W' → R' v W') : CallsX P fid args ex W R' :=
  ⟨h.1, h.2.mono fun _ _ ⟨v, W', h1, h2, h3, h4⟩ => ⟨v, W', h1, h2, h3, hr _ _ h4⟩⟩
/-- The later world is known to be later. -/
theorem CallsX.after {fid : FuncId} {args : Array Value} {ex : List Nat} {W : PW} {R R' : Value → PW → Prop} (h : CallsX P fid args ex W R) (hr : ∀ v W', W.Le W' → R v W' → R' v W') : CallsX P fid args ex W R' :=
  ⟨h.1, h.2.mono fun _ _ ⟨v, W', h1, h2, h3, h4⟩ => ⟨v, W', h1, h2, h3, hr _ _ h3.le h4⟩⟩

theorem resG_run {N : Nat} {f : Fr} {S : GS} {ρ : Nat → Nat} {a : Act} {w : World} (hrel : Rel N ρ f S.σ.length a) (hst : St B ρ S w) : ∀ (l : List ResultVar) {rs : List RV} {gs : List GV}, resR P l = some rs → resG f S rs = some gs →
    (l.mapM fun (x : ResultVar) => (match x with
      | .tmp t => pure (a.tmps.getD t undef)
      | .cell c t => do loadVar t (← asAddr (a.tmps.getD c undef)) : Sem Value)).run P w = .ok (gs.map (GV.real ρ)) w ∧ gs.length = l.length
  | [], rs, gs, h, hg => by
    simp only [resR, Option.some.injEq] at h; subst h
    simp only [resG, Option.some.injEq] at hg; subst hg
    exact ⟨by simp, rfl⟩
  | .tmp t :: r, rs, gs, h, hg => by
    simp only [resR] at h
    split at h
    · rename_i l hl
      simp only [Option.some.injEq] at h; subst h
      simp only [resG] at hg
      split at hg
      · rename_i l' hl'
        simp only [Option.some.injEq] at hg; subst hg
        obtain ⟨h1, h2⟩ := resG_run hrel hst r hl hl'
        refine ⟨?_, by simp [h2]⟩
        have hv := hrel.val t
        simp only [List.mapM_cons, Sem.run_bind, Sem.run_pure, Result.andThen_ok, h1, List.map_cons, hv]
      · cases hg
    · cases h
  | .cell c ty :: r, rs, gs, h, hg => by
    simp only [resR] at h
    split at h
    · rename_i n l hn hl
      simp only [Option.some.injEq] at h; subst h
      simp only [resG] at hg
      split at hg
      · rename_i k l' hk hl'
        split at hg
        · rename_i cs hcs
          split at hg
          · rename_i hb
            simp only [Option.some.injEq] at hg; subst hg
            obtain ⟨h1, h2⟩ := resG_run hrel hst r hl hl'
            refine ⟨?_, by simp [h2]⟩
            have hv := hrel.val c
            rw [hk] at hv
            have hlen := Nat.eq_of_beq_eq_true hb
            have hld := run_loadAtN (P := P) hn (w := w) (a := ⟨ρ k, 0, none⟩) (cs := cs.map (PV.real ρ)) (by rw [List.length_map]; exact hlen) fun j v hj => by
              rw [List.getElem?_map] at hj
              cases hv' : cs[j]? with
              | none => rw [hv'] at hj; cases hj
              | some x =>
                rw [hv'] at hj
                simp only [Option.map_some, Option.some.injEq] at hj
                subst hj
                rw [add_lit, Nat.zero_add]
                exact hst.cell hcs hv'
            have hld' : (loadVar ty ⟨ρ k, 0, none⟩).run P w = .ok (.agg ⟨cs.map (PV.real ρ)⟩) w := by
              simpa [Instr.loadAt, Instr.sureAddr] using hld
            have hone : (do loadVar ty (← asAddr (a.tmps.getD c undef)) : Sem Value).run P w = .ok (.agg ⟨cs.map (PV.real ρ)⟩) w := by
              rw [hv]
              simp only [GV.real, asAddr, pure_bind]
              exact hld'
            rw [List.mapM_cons, Sem.run_bind]
            dsimp only
            rw [hone]
            simp only [Result.andThen_ok, Sem.run_bind, h1, Sem.run_pure, List.map_cons, GV.real]
          · cases hg
        · cases hg
      · cases hg
    · cases h

theorem retVal_run {fn : Func} {N : Nat} {f : Fr} {S : GS} {ρ : Nat → Nat} {a : Act} {w : World} (hrel : Rel N ρ f S.σ.length a) (hst : St B ρ S w) {rs : List RV} {gs : List GV} (h : resR P fn.results.toList = some rs) (hg : resG f S rs = some gs) :
    (results fn a.tmps).run P w = .ok (retVal ρ gs) w := by
  obtain ⟨h1, h2⟩ := resG_run hrel hst _ h hg
  have hm : (fn.results.mapM (fun (x : ResultVar) => (match x with
      | .tmp t => pure (a.tmps.getD t undef)
      | .cell c t => do loadVar t (← asAddr (a.tmps.getD c undef)) : Sem Value))).run P w = .ok ⟨gs.map (GV.real ρ)⟩ w := by
    rw [Array.mapM_eq_mapM_toList, map_eq_pure_bind, Sem.run_bind]
    rw [h1]
    simp only [Result.andThen_ok, Sem.run_pure]
  unfold results
  rw [Sem.run_bind]
  refine (congrArg (fun r => Result.andThen r _) hm).trans ?_
  simp only [Result.andThen_ok, Sem.run_pure]
  match gs with
  | [] => simp [retVal]
  | [g] => simp [retVal]
  | g :: g' :: r => simp [retVal]

theorem callsX_of_vc (hmix : P.follows .mixedOrders = true) {fid : FuncId} {fn : Func} {mf : MF} (hf : P.funcs[fid]? = some fn) (hm : resF P fn = some mf) (hname : (fn.name == "runtime.NumGoroutine") = false)
    (B : Base) (σ₀ : List (List PV)) (O₀ : List Own) (ρ₀ : Nat → Nat) (f₀ : Fr) (vals : List Value) (hst : St B ρ₀ ⟨σ₀, O₀, B.W⟩ B.W.w) (hrc : B.rc.length ≤ σ₀.length) (hlt : ∀ i, (f₀ i).lt σ₀.length)
    (hvals : ∀ i, vals.getD i undef = (f₀ i).real ρ₀) (hlen : vals.length ≤ mf.N) {R : Value → PW → Prop}
    (hvc : vc P B mf.code f₀ ⟨σ₀, O₀, B.W⟩ (retK B mf.rs R)) : CallsX P fid ⟨vals⟩ B.ex B.W R := by
  unfold resF at hm
  split at hm
  · rename_i c hb
    split at hm
    · rename_i mc rs hc hr
      simp only [Option.some.injEq] at hm
      subst hm
      refine ⟨⟨fn, hf, by rw [hb]; rfl, hname⟩, calls_of_wp hf hb ?_⟩
      have hrel : Rel fn.ntmps ρ₀ f₀ σ₀.length { tmps := (⟨vals⟩ : Array Value) ++ Array.replicate (fn.ntmps - (⟨vals⟩ : Array Value).size) undef, defers := [] } := by
        have hlen' : vals.length ≤ fn.ntmps := hlen
        refine ⟨rfl, by simp; omega, fun i => ?_, hlt⟩
        rw [← hvals i]
        rcases Nat.lt_or_ge i vals.length with h1 | h1
        · simp [Array.getElem?_append, h1]
        · simp [Array.getElem?_append, Nat.not_lt.2 h1, Array.getElem?_replicate]
          split <;> rfl
      refine Code.wp_mono (fun e a w hq => ?_) (code_sound hmix hc (S₀ := ⟨σ₀, O₀, B.W⟩) (PW.Le.refl _) (Nat.le_refl _) hrc hrel hst hvc)
      have fin : ∀ f S ρ, Rel fn.ntmps ρ f S.σ.length a → St B ρ S w → (match resG f S rs with | some l => RetVC B l R S | none => False) →
          a.defers = [] ∧ ∃ v, (results fn a.tmps).run P w = .ok v w ∧ ∃ (v' : Value) (W' : PW), Ending.returned v = .returned v' ∧ w = W'.w ∧ Adv B.ex B.W W' ∧ R v' W' := by
        intro f S ρ h1 h2 h3
        split at h3
        · rename_i gs hgs
          obtain ⟨W', k1, k2, k3⟩ := h3.run ρ w h2
          exact ⟨h1.defers, _, retVal_run h1 h2 hr hgs, _, W', rfl, k1.symm, k2, k3⟩
        · exact h3.elim
      cases e with
      | normal => obtain ⟨f, S, ρ, _, _, h1, h2, h3⟩ := hq; exact fin f S ρ h1 h2 h3
      | ret => obtain ⟨f, S, ρ, _, _, h1, h2, h3⟩ := hq; exact fin f S ρ h1 h2 h3
      | exit id => obtain ⟨f, S, ρ, _, _, _, _, h3⟩ := hq; exact h3.elim
      | goto l => exact hq.elim
      | panic ch => exact hq.elim
      | outgrown => exact hq.elim
    · cases hm
  · cases hm

theorem Keep.self (ex : List Nat) (w : World) : Keep ex w w := Keep.refl ex w

theorem St.init0 (W : PW) (ρ : Nat → Nat) : St ⟨W, [], []⟩ ρ ⟨[], [], W⟩ W.w :=
  ⟨Keep.refl _ _, Nat.le_refl _, fun _ _ => rfl, PW.Le.refl _, fun _ h => .inl h, fun k cs h => (by simp at h), fun k h => (by cases h), fun j k h => (by cases h), fun k cs h => (by simp at h), fun k g h => (by simp at h), fun i o h => (by simp at h), fun i j oi oj b h => (by simp at h)⟩

/-- A function that has no receiver of its own to write to. -/
theorem pureX (hmix : P.follows .mixedOrders = true) {fid : FuncId} {fn : Func} {mf : MF} (hf : P.funcs[fid]? = some fn) (hm : resF P fn = some mf) (hname : (fn.name == "runtime.NumGoroutine") = false) {W : PW} (vals : List Value) (hlen : Nat.ble vals.length mf.N = true) {R : Value → PW → Prop}
    (hvc : vc P ⟨W, [], []⟩ mf.code (initV vals) ⟨[], [], W⟩ (retK ⟨W, [], []⟩ mf.rs R)) : CallsX P fid ⟨vals⟩ [] W R :=
  callsX_of_vc hmix hf hm hname ⟨W, [], []⟩ [] [] id (initV vals) vals (St.init0 W id) (Nat.le_refl _) (fun _ => trivial) (fun _ => rfl) (ble_le hlen) hvc

theorem St.init1 {W : PW} {g : Nat} {vs : List Value} (h : OwnB W g vs) : St ⟨W, [g], [g]⟩ (fun _ => g) ⟨[vs.map .v], [], W⟩ W.w := by
  obtain ⟨⟨e, he⟩, hA⟩ := h
  refine ⟨Keep.refl _ _, Nat.le_refl _, fun _ _ => rfl, PW.Le.refl _, fun _ h => .inl h, fun k cs hk => ?_, fun k hk => ⟨hA, .inl (List.mem_singleton.2 rfl)⟩, fun j k hj hk _ => ?_, fun k cs hk c hc => ?_, fun k g' hk => ?_, fun i o hi => by simp at hi, fun i j oi oj b hi => by simp at hi⟩
  · cases k with
    | zero =>
      simp only [List.getElem?_cons_zero, Option.some.injEq] at hk
      subst hk
      exact ⟨e, by rw [PV.real_v]; exact he⟩
    | succ k => simp at hk
  · simp only [List.length_singleton] at hj hk; omega
  · cases k with
    | zero =>
      simp only [List.getElem?_cons_zero, Option.some.injEq] at hk
      subst hk
      obtain ⟨y, _, rfl⟩ := List.mem_map.1 hc; trivial
    | succ k => simp at hk
  · cases k with
    | zero =>
      simp only [List.getElem?_cons_zero, Option.some.injEq] at hk
      exact ⟨Nat.zero_lt_one, hk⟩
    | succ k => simp at hk

/-- A method: its receiver, of which it holds the cells, comes first. -/
theorem methX (hmix : P.follows .mixedOrders = true) {fid : FuncId} {fn : Func} {mf : MF} (hf : P.funcs[fid]? = some fn) (hm : resF P fn = some mf) (hname : (fn.name == "runtime.NumGoroutine") = false) {W : PW} {g : Nat} {vs : List Value} (hown : OwnB W g vs) (vals : List Value) (hlen : Nat.ble (vals.length + 1) mf.N = true) {R : Value → PW → Prop}
    (hvc : vc P ⟨W, [g], [g]⟩ mf.code (initM vals) ⟨[vs.map .v], [], W⟩ (retK ⟨W, [g], [g]⟩ mf.rs R)) : CallsX P fid ⟨.pointer (some ⟨g, 0, none⟩) :: vals⟩ [g] W R :=
  callsX_of_vc hmix hf hm hname ⟨W, [g], [g]⟩ _ [] (fun _ => g) (initM vals) _ (St.init1 hown) (Nat.le_refl _) (fun i => by cases i <;> first | exact Nat.zero_lt_one | trivial)
    (fun i => by cases i <;> rfl) (ble_le (by simpa using hlen)) hvc

/-! ### Returns -/
def plainG : GV → Option Value
  | .v x => some x
  | .lp _ _ => none
  | .ag cs => match plainCells cs with | some l => some (.agg ⟨l⟩) | none => none
  | .clo f caps => match plainCells caps with | some l => some (.func (.func f) #[] ⟨l⟩) | none => none
def plainGs : List GV → Option (List Value)
  | [] => some []
  | g :: r => match plainG g, plainGs r with | some v, some l => some (v :: l) | _, _ => none
def plainRet : List GV → Option Value
  | [g] => plainG g
  | l => match plainGs l with | some l => some (.tuple ⟨l⟩) | none => none

theorem plainG_real {g : GV} {v : Value} (h : plainG g = some v) (ρ : Nat → Nat) : g.real ρ = v := by
  cases g with
  | v x => simpa [plainG, GV.real] using h
  | lp k o => cases h
  | ag cs =>
    simp only [plainG] at h
    split at h
    · rename_i l hl
      simp only [Option.some.injEq] at h; subst h
      simp only [GV.real, plain_real ρ hl]
    · cases h
  | clo f caps =>
    simp only [plainG] at h
    split at h
    · rename_i l hl
      simp only [Option.some.injEq] at h; subst h
      simp only [GV.real, plain_real ρ hl]
    · cases h
theorem plainGs_real : ∀ {gs : List GV} {vs : List Value}, plainGs gs = some vs → ∀ ρ, gs.map (GV.real ρ) = vs
  | [], vs, h, _ => by simp only [plainGs, Option.some.injEq] at h; subst h; rfl
  | g :: r, vs, h, ρ => by
    simp only [plainGs] at h
    split at h
    · rename_i v l hv hl
      simp only [Option.some.injEq] at h; subst h
      simp only [List.map_cons, plainG_real hv ρ, plainGs_real hl ρ]
    · cases h
theorem plainRet_real {gs : List GV} {v : Value} (h : plainRet gs = some v) (ρ : Nat → Nat) : retVal ρ gs = v := by
  match gs with
  | [] => simp only [plainRet, plainGs, Option.some.injEq] at h; subst h; rfl
  | [g] => exact plainG_real h ρ
  | g :: g' :: r =>
    simp only [plainRet] at h
    split at h
    · rename_i l hl
      simp only [Option.some.injEq] at h; subst h
      simp only [retVal, plainGs_real hl ρ]
    · cases h

variable {ρ : Nat → Nat} {S : GS} {w : World}
/-- The world at hand, with what is known never to be written. -/
def St.here (h : St B ρ S w) : PW := ⟨w, S.W.A, fun _ hb => h.A_lt hb⟩
theorem St.le_here (h : St B ρ S w) : S.W.Le h.here := ⟨h.vsize, fun _ hb => hb, fun b hb => h.vblock b hb⟩
theorem St.adv (h : St B ρ S w) : Adv B.ex B.W h.here := ⟨h.keep, h.mono.trans h.le_here, h.back⟩
theorem St.ownB (h : St B ρ S w) {k : Nat} {cs : List PV} {vs : List Value} (hk : S.σ[k]? = some cs) (hp : plainCells cs = some vs) : OwnB h.here (ρ k) vs := by
  obtain ⟨e, he⟩ := h.loc k cs hk
  rw [plain_real ρ hp] at he
  exact ⟨⟨e, he⟩, (h.locA k (List.getElem?_eq_some_iff.1 hk).1).1⟩

theorem ret_plain {gs : List GV} {v : Value} {R : Value → PW → Prop} (h : plainRet gs = some v) (hR : ∀ W', S.W.Le W' → R v W') : RetVC B gs R S :=
  ⟨fun ρ _ hst => ⟨hst.here, rfl, hst.adv, by rw [plainRet_real h ρ]; exact hR _ hst.le_here⟩⟩
/-- A method's return: what the receiver holds. -/
theorem ret_m1 {gs : List GV} {v : Value} {R : Value → PW → Prop} {g : Nat} {cs : List PV} {vs : List Value} (h : plainRet gs = some v) (hrc : B.rc[0]? = some g) (hk : S.σ[0]? = some cs) (hp : plainCells cs = some vs)
    (hR : ∀ W', S.W.Le W' → OwnB W' g vs → R v W') : RetVC B gs R S :=
  ⟨fun ρ _ hst => ⟨hst.here, rfl, hst.adv, by
    rw [plainRet_real h ρ]
    have := hst.ownB hk hp
    rw [(hst.rc 0 g hrc).2] at this
    exact hR _ hst.le_here this⟩⟩

theorem ownsRow_read {W : PW} {e : TypeId} {sz n : Nat} {v : Value} {cs : List Value} (h : W.w.ownsRow 0 e sz v n cs) (hA : ∀ b, v.ownBlock = some b → W.A b) : SlRead W v n cs := by
  rcases h.2 with ⟨rfl, rfl⟩ | ⟨g, cap, cur, rfl, _, hg, h1, h2, h3, h4⟩
  · exact ⟨none, 0, rfl, Nat.le_refl _, Nat.zero_le _, fun h => by omega⟩
  · refine ⟨_, cap, rfl, h1, h2, fun _ => ⟨_, rfl, fun j x hj => ⟨?_, ?_⟩⟩⟩
    · rw [add_lit]; exact hA g rfl
    · rw [add_lit, Nat.zero_add]
      rw [← h4, List.getElem?_take] at hj
      split at hj
      · simp [World.cell?, hg]
        rw [← Array.getElem?_toList]; exact hj
      · cases hj

/-- A slice that is owned is not written any more. -/
theorem St.freeze (h : St B ρ S w) (hex : ∀ b, b ∈ B.ex → b ∈ B.rc) {i : Nat} {o : Own} (hi : S.O[i]? = some o) : ∃ W', S.W.Le W' ∧ SlRead W' o.v o.n o.cs ∧ St B ρ ⟨S.σ, S.O.eraseIdx i, W'⟩ w := by
  obtain ⟨h1, h2⟩ := h.own i o hi
  have hle : S.W.Le ⟨w, fun b => S.W.A b ∨ o.v.ownBlock = some b, fun b hb => hb.elim (fun hA => h.A_lt hA) (fun hb => h.own_lt hi hb)⟩ := ⟨h.vsize, fun _ hb => .inl hb, fun b hb => h.vblock b hb⟩
  have herase : ∀ (j : Nat) (oj : Own), (S.O.eraseIdx i)[j]? = some oj → ∃ j', j' ≠ i ∧ S.O[j']? = some oj ∧ j' = if j < i then j else j + 1 := by
    intro j oj hj
    rw [List.getElem?_eraseIdx] at hj
    by_cases hji : j < i
    · rw [if_pos hji] at hj; exact ⟨j, by omega, hj, by rw [if_pos hji]⟩
    · rw [if_neg hji] at hj; exact ⟨j + 1, by omega, hj, by rw [if_neg hji]⟩
  have hnew : ∀ b, o.v.ownBlock = some b → B.W.w.heap.size ≤ b := fun b hb => (h2 b hb).2.1.elim (fun he => by
    obtain ⟨k, hk⟩ := List.getElem?_of_mem (hex b he)
    obtain ⟨r1, r2⟩ := h.rc k b hk
    exact absurd r2 ((h2 b hb).2.2 k r1)) id
  refine ⟨_, hle, ownsRow_read h1 fun b hb => .inr hb, ⟨h.keep, Nat.le_refl _, fun _ _ => rfl, h.mono.trans hle, fun b hb => hb.elim (h.back b) fun hb => .inr (hnew b hb), h.loc, fun k hk => ⟨fun hA => ?_, (h.locA k hk).2⟩, h.inj, h.cells, h.rc, fun j oj hj => ?_, fun j k oj ok b hj hk hbj hbk => ?_⟩⟩
  · rcases hA with hA | hA
    · exact (h.locA k hk).1 hA
    · exact (h2 _ hA).2.2 k hk rfl
  · obtain ⟨j', hne, hj', _⟩ := herase j oj hj
    obtain ⟨g1, g2⟩ := h.own j' oj hj'
    exact ⟨g1, fun b hb => ⟨fun hA => hA.elim (g2 b hb).1 fun hb' => hne (h.sep j' i oj o b hj' hi hb hb'), (g2 b hb).2⟩⟩
  · obtain ⟨j', _, hj', ej⟩ := herase j oj hj
    obtain ⟨k', _, hk', ek⟩ := herase k ok hk
    have := h.sep j' k' oj ok b hj' hk' hbj hbk
    rw [ej, ek] at this
    split at this <;> split at this <;> omega

/-- A return of what is owned: it is not written any more. -/
theorem RetVC.freeze {gs : List GV} {R : Value → PW → Prop} (hex : ∀ b, b ∈ B.ex → b ∈ B.rc) {i : Nat} {o : Own} (hi : S.O[i]? = some o) (hR : ∀ W', S.W.Le W' → SlRead W' o.v o.n o.cs → RetVC B gs R ((S.setW W').modO fun O => O.eraseIdx i)) : RetVC B gs R S := by
  refine ⟨fun ρ w hst => ?_⟩
  obtain ⟨W', h1, h2, h3⟩ := hst.freeze hex hi
  exact (hR W' h1 h2).run ρ w h3

theorem St.grow (h : St B ρ S w) {W' : PW} (ha : Adv [] h.here W') : St B ρ ⟨S.σ, S.O, W'⟩ W'.w := by
  have hb : ∀ b, b < w.heap.size → W'.w.heap[b]? = w.heap[b]? := fun b hb => ha.keep.block b hb (by simp)
  refine ⟨h.keep.trans ⟨ha.keep.os, ha.keep.tape, ha.keep.output, ha.keep.size, fun b hb _ => ha.keep.block b hb (by simp)⟩, Nat.le_refl _, fun _ _ => rfl, h.mono.trans (h.le_here.trans ha.le), fun b hA => ?_, fun k cs hk => ?_, fun k hk => ⟨fun hA => ?_, (h.locA k hk).2⟩, h.inj, h.cells, h.rc, fun i o hi => ?_, h.sep⟩
  · rcases ha.back b hA with h1 | h1
    · exact h.back b h1
    · exact .inr (Nat.le_trans h.keep.size h1)
  · obtain ⟨e, he⟩ := h.loc k cs hk
    exact ⟨e, (hb _ (h.loc_lt (List.getElem?_eq_some_iff.1 hk).1)).trans he⟩
  · rcases ha.back _ hA with h1 | h1
    · exact (h.locA k hk).1 h1
    · have := h.loc_lt hk
      exact absurd h1 (by simp only [St.here]; omega)
  · obtain ⟨g1, g2⟩ := h.own i o hi
    refine ⟨g1.kept (row := none) ⟨ha.keep.os, ha.keep.tape, ha.keep.output, ha.keep.size, fun b hk _ => hb b hk⟩ (by cases o.v.ownBlock <;> simp), fun b hob => ⟨fun hA => ?_, (g2 b hob).2⟩⟩
    rcases ha.back _ hA with h1 | h1
    · exact (g2 b hob).1 h1
    · have := h.own_lt hi hob
      exact absurd h1 (by simp only [St.here]; omega)

/-- A call whose arguments are values, and that writes to nothing that stands. -/
theorem call_pure {fid : FuncId} {args : List GV} {vs : List Value} {prot : List Nat} {K : GV → GS → Prop} (hp : plainGs args = some vs) (hc : ∀ W', S.W.Le W' → CallsX P fid ⟨vs⟩ [] W' fun v W'' => W'.Le W'' → K (.v v) (S.setW W'')) : CallVC P B fid args prot S K := by
  refine ⟨(hc S.W (PW.Le.refl _)).1, fun ρ w hst => ?_⟩
  rw [plainGs_real hp ρ]
  refine (hc hst.here hst.le_here).2.mono fun e w' ⟨v, W', h1, h2, h3, h4⟩ => ?_
  subst h2
  exact ⟨.v v, ⟨S.σ, S.O, W'⟩, ρ, h1, fun _ _ => rfl, ⟨Nat.le_refl _, hst.le_here.trans h3.le, ⟨fun _ _ => rfl, fun _ _ _ h => h⟩⟩, trivial, hst.grow h3, h4 h3.le⟩

/-! ### Calls that are lent variables, slices -/
theorem St.lend (h : St B ρ S w) {ex : List Nat} {W' : PW} (ha : Adv ex h.here W') {σ' : List (List PV)} {O' : List Own} (hlen : σ'.length = S.σ.length)
    (hex : ∀ b ∈ ex, b ∈ B.ex ∨ B.W.w.heap.size ≤ b)
    (hσ : ∀ (k : Nat) (cs : List PV), σ'[k]? = some cs → (S.σ[k]? = some cs ∧ ρ k ∉ ex) ∨ ∃ vs : List Value, cs = vs.map .v ∧ OwnB W' (ρ k) vs)
    (hO : ∀ (i : Nat) (o : Own), O'[i]? = some o → ∃ j : Nat, S.O[j]? = some o ∧ ∀ b, o.v.ownBlock = some b → b ∉ ex)
    (hsep : ∀ (i j : Nat) (oi oj : Own) (b : Nat), O'[i]? = some oi → O'[j]? = some oj → oi.v.ownBlock = some b → oj.v.ownBlock = some b → i = j) : St B ρ ⟨σ', O', W'⟩ W'.w := by
  have hb : ∀ b, b < w.heap.size → b ∉ ex → W'.w.heap[b]? = w.heap[b]? := fun b hb hn => ha.keep.block b hb hn
  have hA : ∀ b, W'.A b → ¬ S.W.A b → w.heap.size ≤ b := fun b hb hn => (ha.back b hb).elim (fun h => absurd h hn) id
  refine ⟨⟨ha.keep.os.trans h.keep.os, ha.keep.tape.trans h.keep.tape, ha.keep.output.trans h.keep.output, Nat.le_trans h.keep.size ha.keep.size, fun b hb1 hb2 => ?_⟩, Nat.le_refl _, fun _ _ => rfl, h.mono.trans (h.le_here.trans ha.le), fun b hb1 => ?_, fun k cs hk => ?_, fun k hk => ⟨fun hk1 => ?_, ?_⟩, fun j k hj hk => h.inj j k (hlen ▸ hj) (hlen ▸ hk), fun k cs hk c hc => ?_, fun k g hk => ?_, fun i o hi => ?_, hsep⟩
  · have hne : b ∉ ex := fun he => (hex b he).elim hb2 fun h => by omega
    exact (hb b (Nat.lt_of_lt_of_le hb1 h.keep.size) hne).trans (h.keep.block b hb1 hb2)
  · rcases ha.back b hb1 with h1 | h1
    · exact h.back b h1
    · exact .inr (Nat.le_trans h.keep.size h1)
  · rcases hσ k cs hk with ⟨h1, h2⟩ | ⟨vs, rfl, h1, _⟩
    · obtain ⟨e, he⟩ := h.loc k cs h1
      exact ⟨e, (hb _ (h.loc_lt (List.getElem?_eq_some_iff.1 h1).1) h2).trans he⟩
    · obtain ⟨e, he⟩ := h1
      exact ⟨e, by rw [PV.real_v]; exact he⟩
  · have hk' : k < S.σ.length := hlen ▸ hk
    rcases hσ k _ (List.getElem?_eq_getElem hk) with ⟨h1, h2⟩ | ⟨vs, _, _, h1⟩
    · have := hA _ hk1 (h.locA k hk').1
      have := h.loc_lt hk'
      omega
    · exact h1 hk1
  · exact (h.locA k (hlen ▸ hk)).2
  · show c.lt σ'.length
    rw [hlen]
    rcases hσ k cs hk with ⟨h1, h2⟩ | ⟨vs, rfl, h1, _⟩
    · exact h.cells k cs h1 c hc
    · obtain ⟨y, _, rfl⟩ := List.mem_map.1 hc; trivial
  · have := h.rc k g hk
    exact ⟨by show k < σ'.length; rw [hlen]; exact this.1, this.2⟩
  · obtain ⟨j, hj, hne⟩ := hO i o hi
    obtain ⟨g1, g2⟩ := h.own j o hj
    refine ⟨?_, fun b hob => ⟨fun hk1 => ?_, (g2 b hob).2.1, fun k hk => (g2 b hob).2.2 k (hlen ▸ hk)⟩⟩
    · refine ⟨g1.1, g1.2.elim .inl fun ⟨g, cap, cur, e1, e2, e3, e4⟩ => .inr ⟨g, cap, cur, e1, e2, ?_, e4⟩⟩
      exact (hb g (Array.getElem?_eq_some_iff.1 e3).1 (hne g (by rw [e1]; rfl))).trans e3
    · have := hA _ hk1 (g2 b hob).1
      have := h.own_lt hj hob
      omega

theorem St.addOwn {σ : List (List PV)} {O : List Own} {W : PW} (h : St B ρ ⟨σ, O, W⟩ W.w) {o : Own} (ho : W.w.ownsRow 0 o.e o.sz o.v o.n o.cs)
    (hb : ∀ b, o.v.ownBlock = some b → ¬ W.A b ∧ (b ∈ B.ex ∨ B.W.w.heap.size ≤ b) ∧ (∀ k, k < σ.length → ρ k ≠ b) ∧ ∀ (j : Nat) (oj : Own), O[j]? = some oj → oj.v.ownBlock ≠ some b) : St B ρ ⟨σ, O ++ [o], W⟩ W.w := by
  have part : ∀ (j : Nat) (oj : Own), (O ++ [o])[j]? = some oj → (j = O.length ∧ oj = o) ∨ O[j]? = some oj := by
    intro j oj hj
    rcases Nat.lt_trichotomy j O.length with hlt | heq | hgt
    · rw [List.getElem?_append_left hlt] at hj; exact .inr hj
    · subst heq
      rw [List.getElem?_append_right (Nat.le_refl _), Nat.sub_self] at hj
      simp only [List.getElem?_cons_zero, Option.some.injEq] at hj
      exact .inl ⟨rfl, hj.symm⟩
    · rw [List.getElem?_eq_none (by simp; omega)] at hj; cases hj
  refine ⟨h.keep, h.vsize, h.vblock, h.mono, h.back, h.loc, h.locA, h.inj, h.cells, h.rc, fun i oi hi => ?_, fun i j oi oj b hi hj hbi hbj => ?_⟩
  · rcases part i oi hi with ⟨_, rfl⟩ | hi
    · exact ⟨ho, fun b hob => ⟨(hb b hob).1, (hb b hob).2.1, (hb b hob).2.2.1⟩⟩
    · exact h.own i oi hi
  · rcases part i oi hi with ⟨e1, f1⟩ | hi' <;> rcases part j oj hj with ⟨e2, f2⟩ | hj'
    · omega
    · exact absurd hbj ((hb b (f1 ▸ hbi)).2.2.2 j oj hj')
    · exact absurd hbi ((hb b (f2 ▸ hbj)).2.2.2 i oi hi')
    · exact h.sep i j oi oj b hi' hj' hbi hbj

/-- A slice that its holder may write, append to: its block is one of a list, or younger than a world. -/
def OwnS (xs : List Nat) (n₀ : Nat) (W : PW) (o : Own) : Prop := W.w.ownsRow 0 o.e o.sz o.v o.n o.cs ∧ ∀ b, o.v.ownBlock = some b → ¬ W.A b ∧ (b ∈ xs ∨ n₀ ≤ b)

theorem real_args {as : List GV} {vs : List Value} (hp : plainGs as = some vs) (k : Nat) (ρ : Nat → Nat) : (GV.lp k 0 :: as).map (GV.real ρ) = .pointer (some ⟨ρ k, 0, none⟩) :: vs := by
  rw [List.map_cons, plainGs_real hp ρ]; rfl

/-- The call is lent one variable. -/
theorem call_m1 {fid : FuncId} {k : Nat} {as : List GV} {vs xs : List Value} {cs : List PV} {prot : List Nat} {K : GV → GS → Prop} (hk : S.σ[k]? = some cs) (hx : plainCells cs = some xs) (hp : plainGs as = some vs) (hn : prot.contains (k + 1) = false) (hcall : Callable P fid)
    (hc : ∀ g W', S.W.Le W' → OwnB W' g xs → CallsX P fid ⟨.pointer (some ⟨g, 0, none⟩) :: vs⟩ [g] W' fun v W'' => W'.Le W'' → ∃ xs', OwnB W'' g xs' ∧ K (.v v) ((S.setW W'').modσ fun σ => σ.set k (xs'.map .v))) : CallVC P B fid (.lp k 0 :: as) prot S K := by
  refine ⟨hcall, fun ρ w hst => ?_⟩
  have hkl := (List.getElem?_eq_some_iff.1 hk).1
  rw [real_args hp]
  refine (hc (ρ k) hst.here hst.le_here (hst.ownB hk hx)).2.mono fun e w' ⟨v, W', h1, h2, h3, h4⟩ => ?_
  subst h2
  obtain ⟨xs', h5, h6⟩ := h4 h3.le
  refine ⟨.v v, ⟨S.σ.set k (xs'.map .v), S.O, W'⟩, ρ, h1, fun _ _ => rfl, ⟨by simp, hst.le_here.trans h3.le, ⟨fun j hj => ?_, fun _ _ _ h => h⟩⟩, trivial, hst.lend h3 (by simp) (fun b hb => ?_) (fun j cs' hj => ?_) (fun i o hi => ⟨i, hi, fun b hb he => ?_⟩) hst.sep, h6⟩
  · have : k ≠ j := fun e => by subst e; exact not_mem_of hn hj
    exact List.getElem?_set_ne this
  · rw [List.mem_singleton.1 hb]; exact (hst.locA k hkl).2
  · by_cases e : k = j
    · subst e
      rw [List.getElem?_set_self hkl] at hj
      simp only [Option.some.injEq] at hj
      exact .inr ⟨xs', hj.symm, h5⟩
    · rw [List.getElem?_set_ne e] at hj
      refine .inl ⟨hj, fun he => ?_⟩
      exact e (hst.inj j k (List.getElem?_eq_some_iff.1 hj).1 hkl (List.mem_singleton.1 he)).symm
  · exact ((hst.own i o hi).2 b hb).2.2 k hkl (List.mem_singleton.1 he).symm

/-- A call's answer is a slice that only the caller holds. -/
theorem call_ownR {fid : FuncId} {args : List GV} {vs : List Value} {prot : List Nat} {K : GV → GS → Prop} (hp : plainGs args = some vs) (hc : ∀ W', S.W.Le W' → CallsX P fid ⟨vs⟩ [] W' fun v W'' => W'.Le W'' → ∃ o, OwnS [] W'.w.heap.size W'' o ∧ K (.v v) ((S.setW W'').modO fun O => O ++ [o])) : CallVC P B fid args prot S K := by
  refine ⟨(hc S.W (PW.Le.refl _)).1, fun ρ w hst => ?_⟩
  rw [plainGs_real hp ρ]
  refine (hc hst.here hst.le_here).2.mono fun e w' ⟨v, W', h1, h2, h3, h4⟩ => ?_
  subst h2
  obtain ⟨o, h5, h6⟩ := h4 h3.le
  refine ⟨.v v, ⟨S.σ, S.O ++ [o], W'⟩, ρ, h1, fun _ _ => rfl, ⟨Nat.le_refl _, hst.le_here.trans h3.le, ⟨fun _ _ => rfl, fun _ i o' h => by show (S.O ++ [o])[i]? = _; rw [List.getElem?_append_left (List.getElem?_eq_some_iff.1 h).1]; exact h⟩⟩, trivial, (hst.grow h3).addOwn h5.1 fun b hob => ?_, h6⟩
  have hb : w.heap.size ≤ b := (h5.2 b hob).2.elim (fun h => by cases h) id
  refine ⟨(h5.2 b hob).1, .inr (Nat.le_trans hst.keep.size hb), fun k hk e => ?_, fun j oj hj e => ?_⟩
  · have := hst.loc_lt hk; omega
  · have := hst.own_lt hj e; omega

theorem erase_mem {O : List Own} {i : Nat} : ∀ (j : Nat) (oj : Own), (O.eraseIdx i)[j]? = some oj → ∃ j', j' ≠ i ∧ O[j']? = some oj ∧ j' = if j < i then j else j + 1 := by
  intro j oj hj
  rw [List.getElem?_eraseIdx] at hj
  by_cases hji : j < i
  · rw [if_pos hji] at hj; exact ⟨j, by omega, hj, by rw [if_pos hji]⟩
  · rw [if_neg hji] at hj; exact ⟨j + 1, by omega, hj, by rw [if_neg hji]⟩
theorem erase_sep (h : St B ρ S w) {i : Nat} : ∀ (j k : Nat) (oj ok : Own) (b : Nat), (S.O.eraseIdx i)[j]? = some oj → (S.O.eraseIdx i)[k]? = some ok → oj.v.ownBlock = some b → ok.v.ownBlock = some b → j = k := by
  intro j k oj ok b hj hk hbj hbk
  obtain ⟨j', _, hj', ej⟩ := erase_mem j oj hj
  obtain ⟨k', _, hk', ek⟩ := erase_mem k ok hk
  have := h.sep j' k' oj ok b hj' hk' hbj hbk
  rw [ej, ek] at this
  split at this <;> split at this <;> omega

/-- The same slices in another order, or fewer. -/
theorem St.reO {σ : List (List PV)} {O O' : List Own} {W : PW} (h : St B ρ ⟨σ, O, W⟩ w) (f : Nat → Nat) (hf : ∀ (i : Nat) (o : Own), O'[i]? = some o → O[f i]? = some o) (hinj : ∀ (i j : Nat) (o p : Own), O'[i]? = some o → O'[j]? = some p → f i = f j → i = j) : St B ρ ⟨σ, O', W⟩ w :=
  ⟨h.keep, h.vsize, h.vblock, h.mono, h.back, h.loc, h.locA, h.inj, h.cells, h.rc, fun i o hi => h.own (f i) o (hf i o hi), fun i j oi oj b hi hj hbi hbj => hinj i j oi oj hi hj (h.sep (f i) (f j) oi oj b (hf i oi hi) (hf j oj hj) hbi hbj)⟩
theorem St.setBack {O : List Own} {i : Nat} {o o' : Own} (hi : O[i]? = some o) {σ : List (List PV)} {W : PW} (h : St B ρ ⟨σ, O.eraseIdx i ++ [o'], W⟩ w) : St B ρ ⟨σ, O.set i o', W⟩ w := by
  have hlt := (List.getElem?_eq_some_iff.1 hi).1
  have hel : (O.eraseIdx i).length = O.length - 1 := List.length_eraseIdx_of_lt hlt
  refine h.reO (fun j => if j < i then j else if j = i then O.length - 1 else j - 1) (fun j p hj => ?_) (fun j k p q hj hk e => ?_)
  · have hjl : j < O.length := by have := (List.getElem?_eq_some_iff.1 hj).1; simpa using this
    by_cases h1 : j < i
    · rw [if_pos h1, List.getElem?_append_left (by omega), List.getElem?_eraseIdx, if_pos h1]
      rwa [List.getElem?_set_ne (by omega)] at hj
    · rw [if_neg h1]
      by_cases h2 : j = i
      · subst h2
        rw [if_pos rfl, List.getElem?_append_right (by omega), hel, Nat.sub_self]
        rw [List.getElem?_set_self hlt] at hj
        simpa using hj
      · rw [if_neg h2, List.getElem?_append_left (by omega), List.getElem?_eraseIdx, if_neg (by omega), show j - 1 + 1 = j by omega]
        rwa [List.getElem?_set_ne (by omega)] at hj
  · have hjl : j < O.length := by have := (List.getElem?_eq_some_iff.1 hj).1; simpa using this
    have hkl : k < O.length := by have := (List.getElem?_eq_some_iff.1 hk).1; simpa using this
    split at e <;> split at e <;> (try split at e) <;> (try split at e) <;> omega

/-- The call is lent one slice, and answers one. -/
theorem call_O {fid : FuncId} {args : List GV} {vs : List Value} {i : Nat} {o : Own} {prot : List Nat} {K : GV → GS → Prop} (hp : plainGs args = some vs) (hi : S.O[i]? = some o) (h0 : prot.contains 0 = false) (hcall : Callable P fid)
    (hc : ∀ W', S.W.Le W' → OwnS o.v.ownBlock.toList W'.w.heap.size W' o → CallsX P fid ⟨vs⟩ o.v.ownBlock.toList W' fun v W'' => W'.Le W'' → ∃ o', OwnS o.v.ownBlock.toList W'.w.heap.size W'' o' ∧ K (.v v) ((S.setW W'').modO fun O => O.set i o')) : CallVC P B fid args prot S K := by
  refine ⟨hcall, fun ρ w hst => ?_⟩
  obtain ⟨ho1, ho2⟩ := hst.own i o hi
  rw [plainGs_real hp ρ]
  refine (hc hst.here hst.le_here ⟨ho1, fun b hb => ⟨(ho2 b hb).1, .inl (by rw [hb]; simp)⟩⟩).2.mono fun e w' ⟨v, W', h1, h2, h3, h4⟩ => ?_
  subst h2
  obtain ⟨o', h5, h6⟩ := h4 h3.le
  have hmem : ∀ b, b ∈ o.v.ownBlock.toList → o.v.ownBlock = some b := fun b hb => by simpa using hb
  have hst' := hst.lend (σ' := S.σ) (O' := S.O.eraseIdx i) h3 rfl (fun b hb => (ho2 b (hmem b hb)).2.1) (fun k cs hk => .inl ⟨hk, fun he => (ho2 _ (hmem _ he)).2.2 k (List.getElem?_eq_some_iff.1 hk).1 rfl⟩)
    (fun j oj hj => by
      obtain ⟨j', hne, hj', _⟩ := erase_mem j oj hj
      exact ⟨j', hj', fun b hb he => hne (hst.sep j' i oj o b hj' hi hb (hmem b he))⟩) (erase_sep hst)
  refine ⟨.v v, ⟨S.σ, S.O.set i o', W'⟩, ρ, h1, fun _ _ => rfl, ⟨Nat.le_refl _, hst.le_here.trans h3.le, ⟨fun _ _ => rfl, fun h => absurd h (not_mem_of h0)⟩⟩, trivial, (St.setBack hi · ) <| hst'.addOwn h5.1 fun b hob => ?_, h6⟩
  refine ⟨(h5.2 b hob).1, ?_⟩
  rcases (h5.2 b hob).2 with hb | hb
  · have hb := hmem b hb
    refine ⟨(ho2 b hb).2.1, (ho2 b hb).2.2, fun j oj hj e => ?_⟩
    obtain ⟨j', hne, hj', _⟩ := erase_mem j oj hj
    exact hne (hst.sep j' i oj o b hj' hi e hb)
  · have hb : w.heap.size ≤ b := hb
    refine ⟨.inr (Nat.le_trans hst.keep.size hb), fun k hk e => ?_, fun j oj hj e => ?_⟩
    · have := hst.loc_lt hk; omega
    · obtain ⟨j', hne, hj', _⟩ := erase_mem j oj hj
      have := hst.own_lt hj' e; omega

/-- The call is lent one variable and one slice, and answers a slice. -/
theorem call_m1O {fid : FuncId} {k : Nat} {as : List GV} {vs xs : List Value} {cs : List PV} {i : Nat} {o : Own} {prot : List Nat} {K : GV → GS → Prop} (hk : S.σ[k]? = some cs) (hx : plainCells cs = some xs) (hp : plainGs as = some vs) (hi : S.O[i]? = some o) (hn : prot.contains (k + 1) = false) (h0 : prot.contains 0 = false) (hcall : Callable P fid)
    (hc : ∀ g W', S.W.Le W' → OwnB W' g xs → OwnS o.v.ownBlock.toList W'.w.heap.size W' o → g ∉ o.v.ownBlock.toList → CallsX P fid ⟨.pointer (some ⟨g, 0, none⟩) :: vs⟩ (g :: o.v.ownBlock.toList) W' fun v W'' => W'.Le W'' →
      ∃ xs' o', OwnB W'' g xs' ∧ OwnS o.v.ownBlock.toList W'.w.heap.size W'' o' ∧ K (.v v) (((S.setW W'').modO fun O => O.set i o').modσ fun σ => σ.set k (xs'.map .v))) : CallVC P B fid (.lp k 0 :: as) prot S K := by
  refine ⟨hcall, fun ρ w hst => ?_⟩
  have hkl := (List.getElem?_eq_some_iff.1 hk).1
  obtain ⟨ho1, ho2⟩ := hst.own i o hi
  have hmem : ∀ b, b ∈ o.v.ownBlock.toList → o.v.ownBlock = some b := fun b hb => by simpa using hb
  rw [real_args hp]
  refine (hc (ρ k) hst.here hst.le_here (hst.ownB hk hx) ⟨ho1, fun b hb => ⟨(ho2 b hb).1, .inl (by rw [hb]; simp)⟩⟩ (fun he => (ho2 _ (hmem _ he)).2.2 k hkl rfl)).2.mono fun e w' ⟨v, W', h1, h2, h3, h4⟩ => ?_
  subst h2
  obtain ⟨xs', o', h5, h6, h7⟩ := h4 h3.le
  have hst' := hst.lend (σ' := S.σ.set k (xs'.map .v)) (O' := S.O.eraseIdx i) h3 (by simp)
    (fun b hb => by
      rcases List.mem_cons.1 hb with rfl | hb
      · exact (hst.locA k hkl).2
      · exact (ho2 b (hmem b hb)).2.1)
    (fun j cs' hj => by
      by_cases e : k = j
      · subst e
        rw [List.getElem?_set_self hkl] at hj
        simp only [Option.some.injEq] at hj
        exact .inr ⟨xs', hj.symm, h5⟩
      · rw [List.getElem?_set_ne e] at hj
        have hjl := (List.getElem?_eq_some_iff.1 hj).1
        refine .inl ⟨hj, fun he => ?_⟩
        rcases List.mem_cons.1 he with he | he
        · exact e (hst.inj j k hjl hkl he).symm
        · exact (ho2 _ (hmem _ he)).2.2 j hjl rfl)
    (fun j oj hj => by
      obtain ⟨j', hne, hj', _⟩ := erase_mem j oj hj
      refine ⟨j', hj', fun b hb he => ?_⟩
      rcases List.mem_cons.1 he with rfl | he
      · exact ((hst.own j' oj hj').2 _ hb).2.2 k hkl rfl
      · exact hne (hst.sep j' i oj o b hj' hi hb (hmem b he))) (erase_sep hst)
  refine ⟨.v v, ⟨S.σ.set k (xs'.map .v), S.O.set i o', W'⟩, ρ, h1, fun _ _ => rfl, ⟨by simp, hst.le_here.trans h3.le, ⟨fun j hj => ?_, fun h => absurd h (not_mem_of h0)⟩⟩, trivial, (St.setBack hi · ) <| hst'.addOwn h6.1 fun b hob => ?_, h7⟩
  · have : k ≠ j := fun e => by subst e; exact not_mem_of hn hj
    exact List.getElem?_set_ne this
  · refine ⟨(h6.2 b hob).1, ?_⟩
    rcases (h6.2 b hob).2 with hb | hb
    · have hb := hmem b hb
      refine ⟨(ho2 b hb).2.1, fun j hj => (ho2 b hb).2.2 j (by simpa using hj), fun j oj hj e => ?_⟩
      obtain ⟨j', hne, hj', _⟩ := erase_mem j oj hj
      exact hne (hst.sep j' i oj o b hj' hi e hb)
    · have hb : w.heap.size ≤ b := hb
      refine ⟨.inr (Nat.le_trans hst.keep.size hb), fun j hj e => ?_, fun j oj hj e => ?_⟩
      · have := hst.loc_lt (k := j) (by simpa using hj); omega
      · obtain ⟨j', hne, hj', _⟩ := erase_mem j oj hj
        have := hst.own_lt hj' e; omega

end
end Go.Proofs.Ytcgbcbdgjhnlaaa
