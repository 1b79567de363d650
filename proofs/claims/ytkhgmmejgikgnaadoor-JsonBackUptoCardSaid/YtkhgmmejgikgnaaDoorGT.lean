/- Texts of this proof, one behind the other: Top TopD TopF TopU TopJ. No statement of the seat is proved here. -/
import Derived.Test.YtkhgmmejgikgnaaDoorPB
import Derived.Test.YtkhgmmejgikgnaaDoorRows
import Derived.ProofKit
import Derived.Below
import Derived.ChangeSame
import Derived.Test.YtkhgmmejgikgnaaDoorTie
import Derived.Handy
import Derived.Handed
import Derived.Lay
import Derived.MakeChecks
import Derived.LaidMore
import Derived.OpenShut
import Derived.SevenTiedAt
import Derived.Stop.Joined
import Derived.Shelf.Vars
import Derived.Deep.Slices
import Derived.Carry
import Derived.Test.YtkhgmmejgikgnaaDoorGQ
import Derived.Test.YtkhgmmejgikgnaaDoorGH
import Derived.Stop.LaidErr
import Derived.ChangeSlices
import Derived.LaidLaws
import Derived.Test.YtkhgmmejgikgnaaDoorGR
import Derived.Lib.LaidU8
import Derived.Test.YtkhgmmejgikgnaaDoorGK

/- From a contract to the given statement: the last step's laws. -/
namespace Go.Proofs.YtkhgmmejgikgnaaDoor
open Go.RowKit Go.WideShapes Go.ChangeShapes

theorem Tryd.own : ownKnob Tryd.prog.godebug = none := by kernel_rfl
theorem Tryd.laidOut : laidOutB Tryd.prog = true := by kernel_rfl



theorem top_calls {P : Program} {fid : FuncId} {args : Array Value} {W : World} (h : CallsX P fid args [] (PW.all W) fun v _ => v = .bool true) :
    Calls P fid args W fun e w' => e = .returned (.bool true) ∧ Below W.heap.size W w' :=
  h.2.mono fun _ _ ⟨v, W', h1, h2, h3, h4⟩ => ⟨by rw [h1, h4], by
    subst h2
    exact ⟨h3.keep.os, h3.keep.tape, h3.keep.output, h3.keep.size, fun k hk => h3.keep.block k hk (by simp)⟩⟩

section
variable {H : Type} {enc : TypeId × Value → H} {P : Program}
theorem post_of_below {f : Func} {s : ChangeSpec} {apart fresh handsOn again : Bool} {W W' : World} {args : Array Value} {v : Value} {ds gs : List (DataW H)} {before pa pv : List MemPlace}
    (hW : DataW.Whole enc P f.params.toList s.vars apart W args.toList ds gs before)
    (hres : ∀ (b : Nat) (sp : Nat → Bool) (hd : Bool), DataW.TrodAll enc P W' b sp hd f.resultTypes.toList (v.resultList f.resultTypes.size) (s.fn H (ds ++ gs)).results [])
    (hargs : ∀ sp : Nat → Bool, (∀ p ∈ before, sp p.block = true) → DataW.TrodAll enc P W' 0 sp true f.params.toList args.toList (s.fn H (ds ++ gs)).args pa)
    (hvars : ∀ sp : Nat → Bool, (∀ p ∈ before, sp p.block = true) → DataW.TrodVars enc P W' sp s.vars (s.fn H (ds ++ gs)).vars pv)
    (hps : before = pa ++ pv) (hb : Below W.heap.size W W')
    (hok : ∀ (j : Nat) (t : TypeId) (r : Value), f.resultTypes[j]? = some t → (v.resultList f.resultTypes.size)[j]? = some r → Value.okWide P W' .any 0 t r) :
    s.post enc P f apart fresh handsOn again W args v W' := by
  have hlt : ∀ p ∈ before, p.block < W.heap.size := fun p hp => hW.lt p hp
  have hold : ∀ p ∈ before, (fun b => decide (b < W.heap.size)) p.block = true := fun p hp => by simpa using hlt p hp
  refine ⟨ds, gs, before, [], pa, pv, hW, hres _ _ _, hargs _ hold, hvars _ hold, World.keptBut_mono (fun p hp => ⟨hp, ?_⟩) (hb.frame (· ∈ before)), fun _ => ?_⟩
  · rw [hps, List.mem_append] at hp
    exact Or.inr hp
  · obtain ⟨_, _, _, _, _, hz, hn⟩ := hW
    refine ⟨hok, _, _, ([] ++ pa) ++ pv, ⟨[] ++ pa, pv, trodAll_append (hargs _ (fun _ _ => rfl)) (hres _ _ _), hvars _ (fun _ _ => rfl), rfl, ?_, ?_⟩, ?_⟩
    · intro b off hp
      have hin : MemPlace.cell b off ∈ before := by rw [hps]; simpa using hp
      rw [hb.frozen (hlt _ hin)]
      exact hz b off hin
    · intro ha
      have := hn ha
      rw [hps] at this
      simpa using this
    · intro p hp _
      rw [hps]
      simpa using hp
end
end Go.Proofs.YtkhgmmejgikgnaaDoor

/- The last step's laws for statements whose rows list variables; what the library's variable holds; lists of pairs that are handed in. -/
namespace Go.Proofs.YtkhgmmejgikgnaaDoor
open Go.ChangeShapes Go.WideShapes Go.ChangeAt Go.RowKit

section
variable {H : Type} {enc : TypeId × Value → H}
theorem handed_and_shaped {a : Assume} {C : Checked} {os : Os} {f : FuncId} {fn : Func} {s : ChangeSpec} {conds : List PathCond} {apart fresh handsOn again : Bool} {X : World → Array Value → Prop}
    (hX : ∀ (w w' : World) (args : Array Value), w.heap = w'.heap → X w args → X w' args)
    (own : ownKnob C.prog.godebug = none) (started : os.Started) (noInit : C.prog.inits.idxOf? f = none) (hfn : C.prog.funcs[f]? = some fn)
    (witness : ∃ (w : World) (tape : Tape) (i : Input), w.os = os ∧ (w.forCall tape i).Shaped C.prog ∧ i.vars = [] ∧ Input.okWide C.prog (w.forCall tape i) .any w.heap.size f i ∧
      ((s.pre enc C.prog fn conds apart (w.forCall tape i).memory i.args ∧ X (w.forCall tape i).memory i.args) ∧ sizedMet enc C.prog fn (OpenSpec.ofChange s) apart (w.forCall tape i).memory i.args) ∧ a.holds C.prog (lone (Frame.enter C.prog f i.args .normal) [] (w.forCall tape i)))
    (contract : ∀ (W : World) (base : Nat) (args : Array Value) (ds gs : List (DataW H)) (before : List MemPlace),
      (∀ (j : Nat) t v, fn.params[j]? = some t → args[j]? = some v → Value.okWide C.prog W .any base t v) →
      DataW.Whole enc C.prog fn.params.toList s.vars apart W args.toList ds gs before →
      X W args → W.ShapedOpen C.prog →
      Calls C.prog f args W fun e W' => ∃ v, e = .returned v ∧ s.post enc C.prog fn apart fresh handsOn again W args v W') :
    ReturnsInHanded a C os f .any (fun w args => (s.pre enc C.prog fn conds apart w args ∧ X w args) ∧ sizedMet enc C.prog fn (OpenSpec.ofChange s) apart w args) (s.post enc C.prog fn apart fresh handsOn again) := by
  refine returnsInHanded_of_calls own started noInit witness ?_
  intro w tape i _ hsh _ hok hpre hholds
  obtain ⟨_, _, _, fn', hfn', _, _, _, _, hval⟩ := hok
  have e : fn' = fn := Option.some.inj (hfn'.symm.trans hfn)
  subst e
  obtain ⟨⟨⟨ds, gs, before, hw, hc⟩, hx⟩, hz⟩ := hpre
  have hw' := DataW.Whole.of_heap (w' := w.forCall tape i) (by rfl) hw
  refine (contract (w.forCall tape i) w.heap.size i.args ds gs before hval hw' (hX _ _ _ (by rfl) hx) hsh).mono fun e W' ⟨v, he, hp⟩ => ?_
  subst he
  exact ChangeSpec.post_blind hp
theorem hm_of {W : World} (h : W.ShapedOpen Tryd.prog) : HM (PW.all W) := by
  obtain ⟨m, hm⟩ := cell_of_shapedOpen_int (g := 2) (t := 3) (zero := #[.int .i64 0]) (k := .i64) h (of_decide_eq_true (by kernel_rfl)) (by kernel_rfl) rfl (by kernel_rfl) (by kernel_rfl) Tryd.underlying3
  refine ⟨m, ?_, hm⟩
  show 2 < W.heap.size
  rcases Nat.lt_or_ge 2 W.heap.size with h1 | h1
  · exact h1
  · unfold World.cell? at hm
    rw [Array.getElem?_eq_none h1] at hm
    cases hm
end

section
variable {H : Type} {enc : TypeId × Value → H} {w : World} {base : Nat} {spare : Nat → Bool} {held : Bool}
theorem rd_all {a : Addr} {v : Value} (h : w.cell? a = some v) : Rd (PW.all w) a v := by
  refine ⟨?_, h⟩
  show a.block < w.heap.size
  rcases Nat.lt_or_ge a.block w.heap.size with h1 | h1
  · exact h1
  · unfold World.cell? at h
    rw [Array.getElem?_eq_none h1] at h
    cases h
/-- The elements of a slice that is handed in. -/
theorem open_RP {α : Type} {f : α → List Value} {Q : α → Prop} {t e sz fuel : Nat} {v : Value} {x : DataW H × List MemPlace} (ht : Tryd.prog.underlying t = some (.slice e)) (hsz : Tryd.prog.cellsOf e = sz) (hf : ∀ z, (f z).length = sz)
    (hel : ∀ (n : Nat) (cs : List Value) (y : DataW H × List MemPlace), DataW.trod enc Tryd.prog w base spare held n e cs = some y → ∃ z : α, Q z ∧ cs = f z)
    (h : DataW.trod enc Tryd.prog w base spare held fuel t [v] = some x) : ∃ xs : List α, (∀ z ∈ xs, Q z) ∧ xs.length ≤ maxLen ∧ RP f (PW.all w) v xs := by
  rcases Go.Deep.open_slice ht h with ⟨hv, _⟩ | ⟨a, len, cap, m, n, D, Pl, hv, hb, hl, hm, hmm, _, hx⟩
  · simp only [List.cons.injEq, and_true] at hv
    subst hv
    exact ⟨[], (fun z hz => by cases hz), Nat.zero_le _, RP.nil _ _⟩
  · simp only [List.cons.injEq, and_true] at hv
    subst hv
    have hlm : len ≤ m := by rw [hmm]; split <;> omega
    have key : ∀ k, k ≤ len → ∃ xs : List α, xs.length = k ∧ (∀ z ∈ xs, Q z) ∧ Rds (PW.all w) a (xs.map f).flatten := by
      intro k
      induction k with
      | zero => intro _; exact ⟨[], rfl, fun z hz => (by cases hz), fun j v hj => (by simp at hj)⟩
      | succ k ih =>
        intro hk
        obtain ⟨xs, h1, h2, h4⟩ := ih (by omega)
        obtain ⟨cs, c1, c2⟩ := hx k (by omega)
        rw [hsz] at c1
        obtain ⟨_, _, hcell⟩ := World.cells?_some c1
        obtain ⟨z, hq, hr⟩ := hel _ _ _ c2
        refine ⟨xs ++ [z], by simp [h1], fun y hy => ?_, fun j v hj => ?_⟩
        · rcases List.mem_append.1 hy with hy | hy
          · exact h2 y hy
          · rw [List.mem_singleton.1 hy]; exact hq
        · rw [flat_snoc] at hj
          have hfl := flat_len hf xs
          by_cases hjl : j < (xs.map f).flatten.length
          · rw [List.getElem?_append_left hjl] at hj
            exact h4 j v hj
          · rw [List.getElem?_append_right (by omega), ← hr] at hj
            have hjs := (List.getElem?_eq_some_iff.1 hj).1
            have := hcell (j - (xs.map f).flatten.length) (by rw [hr, hf] at hjs; exact hjs)
            rw [hj, Addr.add_add] at this
            rw [hfl, h1] at this hjl
            rw [show k * sz + (j - k * sz) = j by omega] at this
            exact rd_all this
    obtain ⟨xs, h1, h2, h4⟩ := key len (Nat.le_refl _)
    refine ⟨xs, h2, by omega, some a, cap, ?_, by omega, hm, fun _ => ⟨a, rfl, h4⟩⟩
    rw [h1]
theorem open_str {fuel : Nat} {cs : List Value} {x : DataW H × List MemPlace} (h : DataW.trod enc Tryd.prog w base spare held fuel 9 cs = some x) : ∃ l : List UInt8, cs = [strV l] ∧ l.length ≤ 9223372036854775807 := by
  obtain ⟨s, h1, _, h3⟩ := DataW.trod_string Tryd.underlying9 h
  exact ⟨s.data.toList, h1, h3⟩
theorem cells_string : Tryd.prog.cellsOf 9 = 1 := by kernel_rfl
theorem cells_pair : Tryd.prog.cellsOf 71 = 2 := by kernel_rfl
theorem two {α : Type} : ∀ {l : List α}, l.length = 2 → ∃ a b, l = [a, b]
  | [a, b], _ => ⟨a, b, rfl⟩
  | [], h => by cases h
  | [_], h => by cases h
  | _ :: _ :: _ :: _, h => by simp at h
def fitsP (p : PairS) : Prop := p.name.length ≤ 9223372036854775807 ∧ p.value.length ≤ 9223372036854775807
theorem open_pair {fuel : Nat} {cs : List Value} {x : DataW H × List MemPlace} (h : DataW.trod enc Tryd.prog w base spare held fuel 71 cs = some x) : ∃ p : PairS, fitsP p ∧ cs = pairC p := by
  obtain ⟨y0, y1, n, _, hl, h0, h1⟩ := trod_struct2 Tryd.underlying71 h
  have h0 : DataW.trod enc Tryd.prog w base spare held n 9 ((cs.drop 0).take (Tryd.prog.cellsOf 9)) = some y0 := h0
  have h1 : DataW.trod enc Tryd.prog w base spare held n 9 ((cs.drop 1).take (Tryd.prog.cellsOf 9)) = some y1 := h1
  rw [cells_string] at h0 h1
  obtain ⟨c0, c1, rfl⟩ := two (hl.trans cells_pair)
  obtain ⟨a, k0, s0⟩ := open_str h0
  obtain ⟨b, k1, s1⟩ := open_str h1
  simp only [List.drop_zero, List.take_succ_cons, List.take_zero, List.drop_succ_cons, List.cons.injEq, and_true] at k0 k1
  exact ⟨⟨a, b⟩, ⟨s0, s1⟩, by rw [k0, k1]; (first | done | rfl)⟩
/-- A list of pairs that is handed in. -/
theorem open_pairs {v : Value} {d : DataW H} {ps : List MemPlace} (h : DataW.Trod enc Tryd.prog w base spare held 23 v d ps) (hv : v.cells.toList = [v]) : ∃ l : List PairS, (∀ p ∈ l, fitsP p) ∧ l.length ≤ maxLen ∧ RP pairC (PW.all w) v l := by
  obtain ⟨fuel, h⟩ := h
  rw [hv] at h
  exact open_RP Tryd.underlying23 cells_pair (fun _ => rfl) (fun n cs y hy => open_pair hy) h
end
end Go.Proofs.YtkhgmmejgikgnaaDoor

/- The last steps of tied statements: the library's errors, where a row lists them; bytes that are handed in. -/
namespace Go.Proofs.YtkhgmmejgikgnaaDoor
open Go.ChangeShapes Go.WideShapes Go.ChangeAt Go.RowKit

theorem errStar : "*" ++ "errors.errorString" = "*errors.errorString" := by decide
theorem errRow (u : TypeId) (h : Tryd.prog.typeName? 3 u = some "*errors.errorString") : u = 223 :=
  typeName_ptr_named (nm := "errors.errorString") (by rw [errStar]; kernel_rfl) (by kernel_rfl) (by decide) u (by rw [errStar]; exact h)
theorem err_of {W : World} {n : String} {text : List UInt8} {r : List (String × DataW Unit)} {g : Nat} (h : laidMet Tryd.prog ((n, .iface "*errors.errorString" (.ptr (.agg [.lit (.string text)]))) :: r) W)
    (hg : Tryd.prog.globalNamed n = some g) (ht : (Tryd.prog.globals[g]?).map (·.type) = some 101) : ∃ v, Rd (PW.all W) ⟨g, 0, none⟩ v ∧ IsErr v := by
  obtain ⟨a, s, hv, _⟩ := laid_sentinel h hg ht Tryd.underlying101 errRow Tryd.underlying223 Tryd.underlying225 rfl rfl Tryd.underlying9 (by kernel_rfl) (by kernel_rfl)
  have hc := World.var?_cell hg hv 0
  exact ⟨_, rd_all (by rw [hc]; (first | done | rfl)), .inr ⟨_, _, rfl⟩⟩
def RBn (W : PW) (v : Value) (l : List UInt8) : Prop := ∃ A c, v = .slice A l.length c ∧ (A = none → c = 0) ∧ RB W v l
section
variable {H : Type} {enc : TypeId × Value → H} {w : World} {base : Nat} {spare : Nat → Bool} {held : Bool}
theorem cells_byte : Tryd.prog.cellsOf 5 = 1 := by kernel_rfl
theorem wf_byte {n : Int} (h : (Lit.int .u8 n).wf = true) : 0 ≤ n ∧ n ≤ 255 := by
  have := range_u8 (zs := [n]) (fun m hm => by rw [List.mem_singleton.1 hm]; exact h) 0
  simpa using this
theorem open_bytes {v : Value} {d : DataW H} {ps : List MemPlace} (h : DataW.Trod enc Tryd.prog w base spare held 33 v d ps) (hv : v.cells.toList = [v]) : ∃ l : List UInt8, True ∧ True ∧ RBn (PW.all w) v l := by
  obtain ⟨fuel, h⟩ := h
  rw [hv] at h
  rcases open_ints Tryd.underlying33 Tryd.underlying5 cells_byte h with ⟨hcs, _⟩ | ⟨a, len, cap, zs, hcs, _, hl, hm, hz, _, hcell, hwz⟩
  · simp only [List.cons.injEq, and_true] at hcs
    subst hcs
    exact ⟨[], trivial, trivial, none, 0, rfl, fun _ => rfl, SlRead.nil _ _⟩
  · simp only [List.cons.injEq, and_true] at hcs
    subst hcs
    have hlz : len ≤ zs.length := by rw [hz]; split <;> omega
    have hll : ((zs.take len).map fun n => UInt8.ofNat n.toNat).length = len := by simp; omega
    refine ⟨(zs.take len).map fun n => UInt8.ofNat n.toNat, trivial, trivial, some a, cap, by rw [hll], fun e => (by cases e), some a, cap, by rw [hll], by rw [hll]; exact hl, hm, fun _ => ⟨a, rfl, fun j v hj => rd_all ?_⟩⟩
    have hjl := (List.getElem?_eq_some_iff.1 hj).1
    rw [List.length_map, hll] at hjl
    rw [hcell j (by omega), ← hj, List.getElem?_map, List.getElem?_map, List.getElem?_take, if_pos hjl, List.getElem?_eq_getElem (show j < zs.length by omega)]
    have hr := wf_byte (hwz zs[j] (List.getElem_mem _))
    rw [List.getD_eq_getElem?_getD, List.getElem?_eq_getElem (show j < zs.length by omega)]
    show some (Value.int .u8 zs[j]) = some (Value.int .u8 ((UInt8.ofNat zs[j].toNat).toNat : Int))
    rw [UInt8.toNat_ofNat']
    exact congrArg (fun z => some (Value.int .u8 z)) (by omega)
end
end Go.Proofs.YtkhgmmejgikgnaaDoor

/- The last steps of tied statements: utf8's tables, where a row lists them. -/
namespace Go.Proofs.YtkhgmmejgikgnaaDoor
open Go.ChangeShapes Go.WideShapes Go.ChangeAt Go.RowKit

theorem hu_of {W : World} {l : List (String × DataW Unit)} (h : laidMet Tryd.prog l W) (h1 : ("unicode/utf8.first", Lib.firstData) ∈ l) (h2 : ("unicode/utf8.acceptRanges", Lib.acceptData) ∈ l) : HU (PW.all W) := by
  have ht : Lib.Utf8Tabs 0 1 W :=
    utf8Tabs_of_reads (ρ := Tryd.lays260_ren) Tryd.lays260 ⟨by kernel_rfl, by kernel_rfl, by kernel_rfl, by kernel_rfl, by kernel_rfl, by kernel_rfl, by kernel_rfl⟩ (Lib.laidMet.reads h h1) (Lib.laidMet.reads h h2)
  have lt : ∀ {g c : Nat} {v : Value}, W.cell? ⟨g, c, none⟩ = some v → g < W.heap.size := fun {g c v} hc => by
    rcases Nat.lt_or_ge g W.heap.size with h1 | h1
    · exact h1
    · unfold World.cell? at hc
      rw [Array.getElem?_eq_none h1] at hc
      cases hc
  exact ⟨lt (ht.1 0 (by decide)), lt (ht.2 0 (by decide)).1, ht⟩
theorem first_eq : (Rows.laid_unicode_utf8_first : DataW Unit) = Lib.firstData := by kernel_rfl
theorem accept_eq : (Rows.laid_unicode_utf8_acceptRanges : DataW Unit) = Lib.acceptData := by kernel_rfl
theorem rb_hu {W : World} (h : laidMetH Tryd.prog Rows.routeBackRow.laid W) : HU (PW.all W) := by
  have h2 : laidMet Tryd.prog [("unicode/utf8.acceptRanges", (Rows.laid_unicode_utf8_acceptRanges : DataW Unit)), ("unicode/utf8.first", Rows.laid_unicode_utf8_first)] W := by rw [← MakeChecks.laidMetH_plain _ _ _ (by kernel_rfl)]; exact h
  rw [first_eq, accept_eq] at h2
  exact hu_of h2 (.tail _ (.head _)) (.head _)
end Go.Proofs.YtkhgmmejgikgnaaDoor

/- The last steps of Json's statements: the library's errors and tables off the rows' list. -/
namespace Go.Proofs.YtkhgmmejgikgnaaDoor
open Go.ChangeShapes Go.WideShapes Go.ChangeAt Go.RowKit

theorem htj_of {W : World} {rest : List (String × DataW Unit)} (h : laidMet Tryd.prog (("internal/strconv.uint64pow10", Lib.tabData .u64 Lib.pow10Tab) :: rest) W) : HTJ (PW.all W) := by
  have hg : Tryd.prog.globalNamed "internal/strconv.uint64pow10" = some 5 := by kernel_rfl
  have ht : Lib.TabIs Tryd.prog W "internal/strconv.uint64pow10" .u64 Lib.pow10Tab := Lib.tabIs_of_head (g := 5) (t := 216) (e := 147) (n := 20) hg (by kernel_rfl) Tryd.underlying216 Tryd.underlying147 (by kernel_rfl) (by kernel_rfl) h
  refine ⟨?_, ht⟩
  show 5 < W.heap.size
  rcases Nat.lt_or_ge 5 W.heap.size with h1 | h1
  · exact h1
  · unfold Lib.TabIs World.var? at ht
    rw [hg] at ht
    simp only [Option.bind_some] at ht
    rw [Array.getElem?_eq_none h1] at ht
    cases ht
theorem pow_eq : (Rows.laid_internal_strconv_uint64pow10 : DataW Unit) = Lib.tabData .u64 Lib.pow10Tab := by kernel_rfl
theorem jlaid {W : World} (h : laidMetH Tryd.prog Rows.jsonDeepRow.laid W) : laidMet Tryd.prog Rows.jsonDeepRow.laid W := by rw [← MakeChecks.laidMetH_plain _ _ _ (by kernel_rfl)]; exact h
theorem je_of {W : World} (h : laidMetH Tryd.prog Rows.jsonDeepRow.laid W) : HE (PW.all W) := by
  have h5 : laidMet Tryd.prog (("strconv.ErrRange", Rows.laid_strconv_ErrRange) :: ("strconv.ErrSyntax", Rows.laid_strconv_ErrSyntax) :: _) W := laidMet.tail (laidMet.tail (laidMet.tail (laidMet.tail (jlaid h))))
  have h6 := laidMet.tail h5
  exact ⟨err_of h6 (by kernel_rfl) (by kernel_rfl), err_of h5 (by kernel_rfl) (by kernel_rfl)⟩
theorem jt_of {W : World} (h : laidMetH Tryd.prog Rows.jsonDeepRow.laid W) : HTJ (PW.all W) := by
  have h3 : laidMet Tryd.prog (("internal/strconv.uint64pow10", Rows.laid_internal_strconv_uint64pow10) :: _) W := laidMet.tail (laidMet.tail (jlaid h))
  rw [pow_eq] at h3
  exact htj_of h3
theorem ju_of {W : World} (h : laidMetH Tryd.prog Rows.jsonDeepRow.laid W) : HU (PW.all W) := by
  refine hu_of (jlaid h) ?_ ?_
  · rw [← first_eq]
    exact .tail _ (.tail _ (.tail _ (.tail _ (.tail _ (.tail _ (.head _))))))
  · rw [← accept_eq]
    exact .tail _ (.tail _ (.tail _ (.head _)))
end Go.Proofs.YtkhgmmejgikgnaaDoor
