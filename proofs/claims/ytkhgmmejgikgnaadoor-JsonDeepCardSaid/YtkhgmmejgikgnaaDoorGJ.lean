/- Texts of this proof, one behind the other: JsL JsM JsA JsB JsW JsC JsD JsE JsF JsG. No statement of the seat is proved here. -/
import Derived.Test.YtkhgmmejgikgnaaDoorGR
import Derived.Lib.ParseIntB
import Derived.Lib.ValidU
import Derived.Lib.ItoaNum
import Derived.Test.YtkhgmmejgikgnaaDoorGC
import Derived.Test.YtkhgmmejgikgnaaDoorShelfJ
import Derived.Test.YtkhgmmejgikgnaaDoorGH
import Derived.Test.YtkhgmmejgikgnaaDoorGB
import Derived.Lib.ItoaLen
import Derived.Lib.ItoaMem
import Derived.Lib.AppendIntMem

/- Layer 6 (json), plain: what a text says. No program here. -/
namespace Go.Proofs.YtkhgmmejgikgnaaDoor
open Go.RowKit

inductive JT where
  | mk (kind : Int) (b : Bool) (i : Int) (t : List UInt8) (l : List JT) (k : List (List UInt8))
def nullT : JT := .mk 0 false 0 [] [] []
def blankJ (c : UInt8) : Bool := decide (c.toNat = 32) || decide (c.toNat = 9) || decide (c.toNat = 10) || decide (c.toNat = 13)
def skipJ (s : List UInt8) : List UInt8 := s.dropWhile blankJ
def digJ (c : UInt8) : Bool := decide (48 ≤ c.toNat) && decide (c.toNat ≤ 57)
def hexJ (c : UInt8) : Option Nat :=
  if 48 ≤ c.toNat ∧ c.toNat ≤ 57 then some (c.toNat - 48) else if 97 ≤ c.toNat ∧ c.toNat ≤ 102 then some (c.toNat - 87) else if 65 ≤ c.toNat ∧ c.toNat ≤ 70 then some (c.toNat - 55) else none
def fourJ : List UInt8 → Option (Nat × List UInt8)
  | a :: b :: c :: d :: r => match hexJ a, hexJ b, hexJ c, hexJ d with
    | some a, some b, some c, some d => some (((a * 16 + b) * 16 + c) * 16 + d, r)
    | _, _, _, _ => none
  | _ => none
def bytesJ (b : ByteArray) : List UInt8 := b.data.toList
def runeJ (n : Nat) : List UInt8 := bytesJ (Utf8.encode n)
def charJ (s : List UInt8) : Option (List UInt8 × List UInt8) :=
  match fourJ s with
  | none => none
  | some (x, r) =>
    if 55296 ≤ x ∧ x < 56320 ∧ r.take 2 = [92, 117] then match fourJ (r.drop 2) with
      | some (y, r') => if 56320 ≤ y ∧ y < 57344 then some (runeJ (65536 + (x - 55296) * 1024 + (y - 56320)), r') else none
      | none => none
    else if 55296 ≤ x ∧ x < 57344 then none else some (runeJ x, r)
def nameJ (c : UInt8) : Option (List UInt8) :=
  if c.toNat = 34 ∨ c.toNat = 92 ∨ c.toNat = 47 then some [c] else if c.toNat = 98 then some [8] else if c.toNat = 102 then some [12] else if c.toNat = 110 then some [10] else if c.toNat = 114 then some [13] else if c.toNat = 116 then some [9] else none
def escJ : List UInt8 → Option (List UInt8 × List UInt8)
  | [] => none
  | c :: r => match nameJ c with | some t => some (t, r) | none => if c.toNat = 117 then charJ r else none
def signJ : Nat → List UInt8 → List UInt8 → Option (List UInt8 × List UInt8)
  | 0, _, _ => none
  | _ + 1, _, [] => none
  | f + 1, out, c :: r => if c.toNat < 32 then none else if c.toNat = 34 then some (out, r) else if c.toNat = 92 then match escJ r with | none => none | some (t, r') => signJ f (out ++ t) r'
    else signJ f (out ++ [c]) r
def textJ : List UInt8 → Option (List UInt8 × List UInt8)
  | [] => none
  | c :: r => if c = 34 then signJ (r.length + 1) [] r else none
/-- The number's signs at the beginning of a text. -/
def signsJ (s : List UInt8) : List UInt8 := match s with | 45 :: r => 45 :: r.takeWhile digJ | _ => s.takeWhile digJ
def intJ (t : List UInt8) : Option Int := match Lib.parseIntB 64 t with
  | .ok v => if Lib.itoa v = t ∧ -9007199254740992 ≤ v ∧ v ≤ 9007199254740992 then some v else none
  | _ => none
def numJ (s : List UInt8) : Option (JT × List UInt8) := match intJ (signsJ s) with | some v => some (.mk 2 false v [] [] [], s.drop (signsJ s).length) | none => none
/-- Whether a list, a map is at its end (some none: it is; some (some r): one stands at r). -/
def endJ (sign : UInt8) (first : Bool) (s : List UInt8) : Option (Option (List UInt8)) :=
  if (skipJ s).head? = some sign then some none else if first = true then some (some (skipJ s)) else if (skipJ s).head? = some 44 then some (some ((skipJ s).drop 1)) else none
def listJ (val : List UInt8 → Option (JT × List UInt8)) : Nat → List JT → List UInt8 → Option (JT × List UInt8)
  | 0, _, _ => none
  | f + 1, acc, s => match endJ 93 acc.isEmpty s with
    | none => none
    | some none => some (.mk 4 false 0 [] acc [], (skipJ s).drop 1)
    | some (some r) => match val r with | none => none | some (x, r') => listJ val f (acc ++ [x]) r'
def keyJ (keys : List (List UInt8)) (s : List UInt8) : Option (List UInt8 × List UInt8) :=
  match textJ (skipJ s) with
  | none => none
  | some (k, r) => if (skipJ r).head? = some 58 ∧ k ∉ keys then some (k, (skipJ r).drop 1) else none
def tableJ (val : List UInt8 → Option (JT × List UInt8)) : Nat → List (List UInt8) → List JT → List UInt8 → Option (JT × List UInt8)
  | 0, _, _, _ => none
  | f + 1, keys, acc, s => match endJ 125 acc.isEmpty s with
    | none => none
    | some none => some (.mk 5 false 0 [] acc keys, (skipJ s).drop 1)
    | some (some r) => match keyJ keys r with
      | none => none
      | some (k, r') => match val r' with | none => none | some (x, r'') => tableJ val f (keys ++ [k]) (acc ++ [x]) r''
def nullS' : List UInt8 := [110, 117, 108, 108]
def trueS' : List UInt8 := [116, 114, 117, 101]
def falseS' : List UInt8 := [102, 97, 108, 115, 101]
def valueB (val : List UInt8 → Option (JT × List UInt8)) (s : List UInt8) : Option (JT × List UInt8) :=
  match s with
  | [] => none
  | c :: r =>
    if s.take 4 = nullS' then some (nullT, s.drop 4)
    else if s.take 4 = trueS' then some (.mk 1 true 0 [] [] [], s.drop 4)
    else if s.take 5 = falseS' then some (.mk 1 false 0 [] [] [], s.drop 5)
    else if c = 34 then match textJ s with | some (t, r') => some (.mk 3 false 0 t [] [], r') | none => none
    else if c = 91 then listJ val (r.length + 1) [] r
    else if c = 123 then tableJ val (r.length + 1) [] [] r
    else numJ s
def valueJ : Nat → List UInt8 → Option (JT × List UInt8)
  | 0, _ => none
  | d + 1, s => valueB (valueJ d) (skipJ s)
def parseJ (s : List UInt8) : JT × Int :=
  if 65536 < s.length then (nullT, 5)
  else if Lib.validD s = false then (nullT, 4)
  else match valueJ 16 s with
    | some (v, r) => if skipJ r = [] then (v, 0) else (nullT, 4)
    | none => (nullT, 4)

/-! ## Values in the program -/
inductive JV where
  | mk (kind : Int) (b : Bool) (i : Int) (t : List UInt8) (u1 : Value) (l : List JV) (u2 : Value) (k : List (List UInt8))
def JV.cells : JV → List Value
  | .mk kind b i t u1 _ u2 _ => [.int .i64 kind, .bool b, .int .i64 i, strV t, u1, u2]
mutual
def JV.er : JV → JT
  | .mk kind b i t _ l _ k => .mk kind b i t (JV.ers l) k
def JV.ers : List JV → List JT
  | [] => []
  | x :: r => x.er :: JV.ers r
end
theorem ers_map : ∀ l : List JV, JV.ers l = l.map JV.er
  | [] => by rw [JV.ers]; (first | done | rfl)
  | x :: r => by rw [JV.ers, ers_map r]; (first | done | rfl)
theorem ers_snoc (l : List JV) (x : JV) : JV.ers (l ++ [x]) = JV.ers l ++ [x.er] := by rw [ers_map, ers_map, List.map_append]; (first | done | rfl)
inductive JOK (W : PW) : JV → Prop where
  | mk {kind : Int} {b : Bool} {i : Int} {t : List UInt8} {u1 : Value} {l : List JV} {u2 : Value} {k : List (List UInt8)} (h1 : RP JV.cells W u1 l) (h2 : RP sC W u2 k) (h3 : ∀ x ∈ l, JOK W x) : JOK W (.mk kind b i t u1 l u2 k)
theorem JOK.mono {W W' : PW} {j : JV} (h : JOK W j) (l : W.Le W') : JOK W' j := by
  induction h with
  | mk h1 h2 _ ih => exact .mk (h1.mono l) (h2.mono l) ih
theorem JV.cells_len (j : JV) : j.cells.length = 6 := by cases j; (first | done | rfl)
def nilU : Value := .slice none 0 0
def nullV : JV := .mk 0 false 0 [] nilU [] nilU []
theorem JOK.leaf (W : PW) (kind : Int) (b : Bool) (i : Int) (t : List UInt8) : JOK W (.mk kind b i t nilU [] nilU []) := .mk (RP.nil _ _) (RP.nil _ _) fun _ h => by cases h
def parC (s : List UInt8) (i : Nat) (ok : Bool) : List Value := [strV s, .int .i64 i, .bool ok]
/-- What a part of the parser leaves: it is right just where the document's own is. -/
def Out {α : Type} (ok ok' : Bool) (spec : Option (α × List UInt8)) (rest : List UInt8) (x : α) : Prop := (ok' = true → ok = true ∧ spec = some (x, rest)) ∧ (ok' = false → ok = true → spec = none)
end Go.Proofs.YtkhgmmejgikgnaaDoor

/- Layer 6 (json), plain: what is read is shorter than what it is read from. No program here. -/
namespace Go.Proofs.YtkhgmmejgikgnaaDoor
open Go.RowKit

theorem skip_le (r : List UInt8) : (skipJ r).length ≤ r.length := (List.dropWhile_sublist _).length_le
theorem fourJ_len {s r : List UInt8} {x : Nat} (h : fourJ s = some (x, r)) : r.length < s.length := by
  unfold fourJ at h
  split at h
  · split at h
    · simp only [Option.some.injEq, Prod.mk.injEq] at h
      rw [← h.2]; simp only [List.length_cons]; omega
    · cases h
  · cases h
theorem charJ_len {s r t : List UInt8} (h : charJ s = some (t, r)) : r.length < s.length := by
  unfold charJ at h
  split at h
  · cases h
  · rename_i x r1 h1
    have hl := fourJ_len h1
    split at h
    · split at h
      · rename_i y r2 h2
        have hl2 := fourJ_len h2
        rw [List.length_drop] at hl2
        split at h
        · simp only [Option.some.injEq, Prod.mk.injEq] at h
          rw [← h.2]; omega
        · cases h
      · cases h
    · split at h
      · cases h
      · simp only [Option.some.injEq, Prod.mk.injEq] at h
        rw [← h.2]; exact hl
theorem escJ_len {s r t : List UInt8} (h : escJ s = some (t, r)) : r.length < s.length := by
  unfold escJ at h
  split at h
  · cases h
  · split at h
    · simp only [Option.some.injEq, Prod.mk.injEq] at h
      rw [← h.2]; exact Nat.lt_succ_self _
    · split at h
      · exact Nat.lt_succ_of_lt (charJ_len h)
      · cases h
theorem signJ_len {r t : List UInt8} : ∀ {f : Nat} {out s : List UInt8}, signJ f out s = some (t, r) → r.length < s.length
  | 0, _, _, h => by cases h
  | f + 1, _, [], h => by cases h
  | f + 1, out, c :: q, h => by
    unfold signJ at h
    split at h
    · cases h
    · split at h
      · simp only [Option.some.injEq, Prod.mk.injEq] at h
        rw [← h.2]; exact Nat.lt_succ_self _
      · split at h
        · split at h
          · cases h
          · rename_i h1
            exact Nat.lt_succ_of_lt (Nat.lt_trans (signJ_len h) (escJ_len h1))
        · exact Nat.lt_succ_of_lt (signJ_len h)
theorem textJ_len {s r t : List UInt8} (h : textJ s = some (t, r)) : r.length < s.length := by
  unfold textJ at h
  split at h
  · cases h
  · split at h
    · exact Nat.lt_succ_of_lt (signJ_len h)
    · cases h
theorem signs_le (s : List UInt8) : (signsJ s).length ≤ s.length := by
  unfold signsJ
  split
  · exact Nat.succ_le_succ (List.takeWhile_sublist _).length_le
  · exact (List.takeWhile_sublist _).length_le
theorem numJ_len {s r : List UInt8} {x : JT} (h : numJ s = some (x, r)) : r.length < s.length := by
  unfold numJ at h
  split at h
  · rename_i v hv
    simp only [Option.some.injEq, Prod.mk.injEq] at h
    rw [← h.2, List.length_drop]
    have h0 : 0 < (signsJ s).length := by
      cases hs : signsJ s with
      | nil => rw [hs] at hv; unfold intJ Lib.parseIntB at hv; cases hv
      | cons => exact Nat.succ_pos _
    have := signs_le s
    omega
  · cases h
theorem endJ_none {sign : UInt8} {first : Bool} {s : List UInt8} (h : endJ sign first s = some none) : ((skipJ s).drop 1).length < s.length := by
  unfold endJ at h
  split at h
  · rename_i h1
    have hl := skip_le s
    cases hs : skipJ s with
    | nil => rw [hs] at h1; cases h1
    | cons c r => rw [hs] at hl; exact Nat.lt_of_succ_le hl
  · split at h
    · cases h
    · split at h <;> cases h
theorem endJ_some {sign : UInt8} {first : Bool} {s r : List UInt8} (h : endJ sign first s = some (some r)) : r.length ≤ s.length := by
  have hl := skip_le s
  unfold endJ at h
  split at h
  · cases h
  · split at h
    · simp only [Option.some.injEq] at h; rw [← h]; exact hl
    · split at h
      · simp only [Option.some.injEq] at h; rw [← h, List.length_drop]; omega
      · cases h
def Shorter (val : List UInt8 → Option (JT × List UInt8)) : Prop := ∀ {s r : List UInt8} {x : JT}, val s = some (x, r) → r.length < s.length
theorem listJ_len {val : List UInt8 → Option (JT × List UInt8)} (hv : Shorter val) {r : List UInt8} {x : JT} : ∀ {f : Nat} {acc : List JT} {s : List UInt8}, listJ val f acc s = some (x, r) → r.length < s.length
  | 0, _, _, h => by cases h
  | f + 1, acc, s, h => by
    unfold listJ at h
    split at h
    · cases h
    · rename_i h1
      simp only [Option.some.injEq, Prod.mk.injEq] at h
      rw [← h.2]; exact endJ_none h1
    · rename_i h1
      split at h
      · cases h
      · rename_i h2
        exact Nat.lt_trans (listJ_len hv h) (Nat.lt_of_lt_of_le (hv h2) (endJ_some h1))
theorem keyJ_len {keys : List (List UInt8)} {s k r : List UInt8} (h : keyJ keys s = some (k, r)) : r.length < s.length := by
  unfold keyJ at h
  split at h
  · cases h
  · rename_i h1
    split at h
    · simp only [Option.some.injEq, Prod.mk.injEq] at h
      have e1 := textJ_len h1
      have e2 := skip_le s
      rw [← h.2, List.length_drop]
      exact Nat.lt_of_le_of_lt (Nat.le_trans (Nat.sub_le _ _) (skip_le _)) (Nat.lt_of_lt_of_le e1 e2)
    · cases h
theorem tableJ_len {val : List UInt8 → Option (JT × List UInt8)} (hv : Shorter val) {r : List UInt8} {x : JT} : ∀ {f : Nat} {keys : List (List UInt8)} {acc : List JT} {s : List UInt8}, tableJ val f keys acc s = some (x, r) → r.length < s.length
  | 0, _, _, _, h => by cases h
  | f + 1, keys, acc, s, h => by
    unfold tableJ at h
    split at h
    · cases h
    · rename_i h1
      simp only [Option.some.injEq, Prod.mk.injEq] at h
      rw [← h.2]; exact endJ_none h1
    · rename_i h1
      split at h
      · cases h
      · rename_i h2
        split at h
        · cases h
        · rename_i h3
          exact Nat.lt_trans (tableJ_len hv h) (Nat.lt_trans (hv h3) (Nat.lt_of_lt_of_le (keyJ_len h2) (endJ_some h1)))
theorem valueB_len {val : List UInt8 → Option (JT × List UInt8)} (hv : Shorter val) : Shorter (valueB val) := by
  intro s r x h
  unfold valueB at h
  split at h
  · cases h
  · rename_i c q
    have hd : ∀ n, ((c :: q).drop (n + 1)).length < (c :: q).length := fun n => by rw [List.length_drop, List.length_cons]; omega
    split at h
    · simp only [Option.some.injEq, Prod.mk.injEq] at h; rw [← h.2]; exact hd 3
    · split at h
      · simp only [Option.some.injEq, Prod.mk.injEq] at h; rw [← h.2]; exact hd 3
      · split at h
        · simp only [Option.some.injEq, Prod.mk.injEq] at h; rw [← h.2]; exact hd 4
        · split at h
          · split at h
            · rename_i h1
              simp only [Option.some.injEq, Prod.mk.injEq] at h; rw [← h.2]; exact textJ_len h1
            · cases h
          · split at h
            · exact Nat.lt_succ_of_lt (listJ_len hv h)
            · split at h
              · exact Nat.lt_succ_of_lt (tableJ_len hv h)
              · exact numJ_len h
theorem valueJ_len : ∀ d : Nat, Shorter (valueJ d)
  | 0 => fun h => by cases h
  | d + 1 => fun h => Nat.lt_of_lt_of_le (valueB_len (valueJ_len d) h) (skip_le _)
end Go.Proofs.YtkhgmmejgikgnaaDoor

/- Layer 6 (json), walked: the parser's small steps. -/
namespace Go.Proofs.YtkhgmmejgikgnaaDoor
open Go.RowKit

theorem jfail_x (s : List UInt8) (i : Nat) (ok : Bool) (g : Nat) (W : PW) (ho : OwnB W g (parC s i ok)) : CallsX Tryd.prog 126 ⟨[.pointer (some ⟨g, 0, none⟩)]⟩ [g] W fun _ W' => OwnB W' g (parC s i false) := by
  refine methX hmix Tryd.func126 r126 (by kernel_rfl) ho [] rfl ?_
  exact ret_m1 rfl rfl rfl rfl fun W' _ hw => hw
theorem prefix_take (s p : List UInt8) : Lib.hasPrefix s p = decide (s.take p.length = p) := by
  unfold Lib.hasPrefix
  rw [Bool.eq_iff_iff, List.isPrefixOf_iff_prefix, List.prefix_iff_eq_take, decide_eq_true_eq]
  exact ⟨fun h => h.symm, fun h => h.symm⟩
theorem hasp_x (s p : List UInt8) (W : PW) : CallsX Tryd.prog 82 ⟨[strV s, strV p]⟩ [] W fun v _ => v = .bool (decide (s.take p.length = p)) := by
  have h := Tryd.strings_HasPrefix ⟨⟨s⟩⟩ ⟨⟨p⟩⟩ W.w
  rw [prefix_take] at h
  exact (CallsX.of_same ⟨_, Tryd.func82, by kernel_rfl, by kernel_rfl⟩ h)
theorem jtake_x (s t : List UInt8) (hs : s.length ≤ 65536) (ht : t.length ≤ 100) (i : Nat) (hi : i ≤ s.length) (ok : Bool) (g : Nat) (W : PW) (ho : OwnB W g (parC s i ok)) :
    CallsX Tryd.prog 127 ⟨[.pointer (some ⟨g, 0, none⟩), strV t]⟩ [g] W fun v W' => ((s.drop i).take t.length = t ∧ v = .bool true ∧ i + t.length ≤ s.length ∧ OwnB W' g (parC s (i + t.length) ok)) ∨ (¬ (s.drop i).take t.length = t ∧ v = .bool false ∧ OwnB W' g (parC s i ok)) := by
  refine methX hmix Tryd.func127 r127 (by kernel_rfl) ho [strV t] rfl ?_
  have hcut : ((s.drop i).take (s.length - i)) = s.drop i := by rw [List.take_of_length_le]; simp
  refine ⟨⟨by omega, by show (i : Int) ≤ s.length; omega, Int.le_refl _⟩, ?_⟩
  refine call_v rfl (fun W' _ => hasp_x _ t W') (fun W3 v W4 _ _ hv => ?_)
  subst hv
  refine br_nsplit (fun hp => ?_) (fun hp => ?_)
  · have hp : ¬ (((s.drop i).take (s.length - i)).take t.length = t) := hp
    rw [hcut] at hp
    exact ret_m1 rfl rfl rfl rfl fun W' _ hw => .inr ⟨hp, rfl, hw⟩
  · have hp : ((s.drop i).take (s.length - i)).take t.length = t := hp
    rw [hcut] at hp
    have hl := congrArg List.length hp
    rw [List.length_take, List.length_drop] at hl
    refine ⟨rfl, _, (i64_in ((i : Int) + t.length) ⟨by omega, by omega⟩).symm, ?_⟩
    exact ret_m1 rfl rfl rfl rfl fun W' _ hw => .inl ⟨hp, rfl, by omega, hw⟩
def blkL : List UInt8 := [32, 9, 10, 13]
theorem blk_geq (c : UInt8) : decide (0 ≤ Lib.indexByte blkL c) = blankJ c := by
  refine byte_all (p := fun c => decide (0 ≤ Lib.indexByte blkL c) = blankJ c) ?_ c
  decide +kernel
theorem jblanks_x (s : List UInt8) (hs : s.length ≤ 65536) (i : Nat) (hi : i ≤ s.length) (ok : Bool) (g : Nat) (W : PW) (ho : OwnB W g (parC s i ok)) :
    CallsX Tryd.prog 88 ⟨[.pointer (some ⟨g, 0, none⟩)]⟩ [g] W fun _ W' => ∃ j, i ≤ j ∧ j ≤ s.length ∧ s.drop j = skipJ (s.drop i) ∧ OwnB W' g (parC s j ok) := by
  refine methX hmix Tryd.func88 r88 (by kernel_rfl) ho [] rfl ?_
  refine ⟨Nat, fun _ => [], fun j => [[.v (strV s), .v (.int .i64 j), .v (.bool ok)]], fun _ => [], fun j _ => i ≤ j ∧ j ≤ s.length ∧ skipJ (s.drop i) = skipJ (s.drop j), fun j => s.length - j, i,
    all_sl trivial, rfl, ole_refl _, ⟨Nat.le_refl _, hi, rfl⟩, loopOK (fun _ => trivial) (fun _ => rfl) (fun _ => rfl), ?_⟩
  intro j W1 l1 ⟨h1, h2, h3⟩ f
  refine ⟨rfl, br_split (fun h => ?_) (fun h => ?_)⟩
  · have h : (j : Int) < s.length := h
    have hj : j < s.length := by omega
    obtain ⟨x, hx⟩ := at_q (s := s) (i := j) hj
    have hb : byteAt s (j : Int).toNat = x.toNat := byteAt_get hx
    have hd : s.drop j = x :: s.drop (j + 1) := drop_q hx
    refine ⟨⟨by omega, h⟩, ?_⟩
    obtain ⟨z, hz⟩ : ∃ z, byteAt s (j : Int).toNat = z := ⟨_, rfl⟩
    generalize byteAt s (j : Int).toNat = z at hb ⊢
    refine call_v rfl (fun W' _ => CallsX.of_same (v := .int .i64 (Lib.indexByte blkL z.toNat.toUInt8)) ⟨_, Tryd.func110, by kernel_rfl, by kernel_rfl⟩ (Tryd.strings_IndexByte ⟨⟨blkL⟩⟩ z W'.w)) (fun W2 v W3 _ _ hv => ?_)
    have hz2 : z.toNat.toUInt8 = x := by rw [hb]; simp
    rw [hz2] at hv
    obtain ⟨y, hy⟩ : ∃ y, Lib.indexByte blkL x = y := ⟨_, rfl⟩
    have hyb := blk_geq x
    rw [hy] at hv hyb
    subst hv
    refine ⟨rfl, br_split (fun h => ?_) (fun h => ?_)⟩
    · have h : (0 : Int) ≤ y := h
      rw [decide_eq_true h] at hyb
      refine ⟨rfl, _, (i64_in ((j : Int) + 1) ⟨by omega, by omega⟩).symm, j + 1, all_sl trivial, rfl, ole_refl _, ⟨by omega, by omega, ?_⟩, by dsimp only; omega⟩
      rw [h3, hd]
      unfold skipJ
      rw [List.dropWhile_cons, ← hyb, if_pos rfl]
    · have h : ¬ (0 : Int) ≤ y := h
      rw [decide_eq_false h] at hyb
      refine ret_m1 rfl rfl rfl rfl fun W' _ hw => ⟨j, h1, h2, ?_, hw⟩
      rw [h3, hd]
      unfold skipJ
      rw [List.dropWhile_cons, ← hyb, if_neg Bool.false_ne_true]
  · have h : ¬ (j : Int) < s.length := h
    exact ret_m1 rfl rfl rfl rfl fun W' _ hw => ⟨j, h1, h2, by rw [h3, List.drop_eq_nil_of_le (by omega)]; (first | done | rfl), hw⟩
theorem take_one {r : List UInt8} {c : UInt8} : r.take 1 = [c] ↔ r.head? = some c := by
  cases r with
  | nil => simp
  | cons a r => simp
theorem jend_x (s : List UInt8) (hs : s.length ≤ 65536) (c : UInt8) (first : Bool) (i : Nat) (hi : i ≤ s.length) (ok : Bool) (g : Nat) (W : PW) (ho : OwnB W g (parC s i ok)) :
    CallsX Tryd.prog 168 ⟨[.pointer (some ⟨g, 0, none⟩), strV [c], .bool first]⟩ [g] W fun v W' => ∃ (j : Nat) (b ok' : Bool), i ≤ j ∧ j ≤ s.length ∧ v = .bool b ∧ OwnB W' g (parC s j ok') ∧
      ((b = true ∧ ok' = false ∧ (ok = true → endJ c first (s.drop i) = none)) ∨ (b = true ∧ ok = true ∧ ok' = true ∧ endJ c first (s.drop i) = some none ∧ s.drop j = (skipJ (s.drop i)).drop 1 ∧ i < j) ∨ (b = false ∧ ok = true ∧ ok' = true ∧ endJ c first (s.drop i) = some (some (s.drop j)))) := by
  refine methX hmix Tryd.func168 r168 (by kernel_rfl) ho [strV [c], .bool first] rfl ?_
  refine call_m1 rfl rfl rfl rfl k88 (fun g' W' _ how => (jblanks_x s hs i hi ok g' W' how).mono fun v W2 ⟨j, h1, h2, h3, hw⟩ _ => ⟨_, hw, ?_⟩)
  cases ok with
  | false => exact ret_m1 rfl rfl rfl rfl fun W' _ hw => ⟨j, true, false, h1, h2, rfl, hw, .inl ⟨rfl, rfl, fun e => by cases e⟩⟩
  | true =>
    refine call_m1 rfl rfl rfl rfl k127 (fun g' W' _ how => (jtake_x s [c] hs (by show 1 ≤ 100; decide) j h2 true g' W' how).mono fun v W3 hv _ => ?_)
    rw [h3, show [c].length = 1 from rfl, take_one] at hv
    rcases hv with ⟨e, rfl, hl, hw⟩ | ⟨e, rfl, hw⟩
    · refine ⟨_, hw, ?_⟩
      exact ret_m1 rfl rfl rfl rfl fun W' _ hw => ⟨j + 1, true, true, by omega, hl, rfl, hw, .inr (.inl ⟨rfl, rfl, rfl, by unfold endJ; rw [if_pos e], by rw [← h3, List.drop_drop], by omega⟩)⟩
    · refine ⟨_, hw, ?_⟩
      cases first with
      | true => exact ret_m1 rfl rfl rfl rfl fun W' _ hw => ⟨j, false, true, h1, h2, rfl, hw, .inr (.inr ⟨rfl, rfl, rfl, by unfold endJ; rw [if_neg e, if_pos rfl, h3]⟩)⟩
      | false =>
        refine call_m1 rfl rfl rfl rfl k127 (fun g' W' _ how => (jtake_x s [44] hs (by decide) j h2 true g' W' how).mono fun v W4 hv _ => ?_)
        rw [h3, show [(44 : UInt8)].length = 1 from rfl, take_one] at hv
        rcases hv with ⟨e2, rfl, hl, hw⟩ | ⟨e2, rfl, hw⟩
        · refine ⟨_, hw, ?_⟩
          exact ret_m1 rfl rfl rfl rfl fun W' _ hw => ⟨j + 1, false, true, by omega, hl, rfl, hw, .inr (.inr ⟨rfl, rfl, rfl, by unfold endJ; rw [if_neg e, if_neg Bool.false_ne_true, if_pos e2, ← h3, List.drop_drop]⟩)⟩
        · refine ⟨_, hw, ?_⟩
          refine call_m1 rfl rfl rfl rfl k126 (fun g' W' _ how => (jfail_x s j true g' W' how).mono fun v W5 hw _ => ⟨_, hw, ?_⟩)
          exact ret_m1 rfl rfl rfl rfl fun W' _ hw => ⟨j, true, false, h1, h2, rfl, hw, .inl ⟨rfl, rfl, fun _ => by unfold endJ; rw [if_neg e, if_neg Bool.false_ne_true, if_neg e2]⟩⟩
end Go.Proofs.YtkhgmmejgikgnaaDoor

/- Layer 6 (json), walked: the signs of a text. -/
namespace Go.Proofs.YtkhgmmejgikgnaaDoor
open Go.RowKit

def dgL : List UInt8 := [48, 49, 50, 51, 52, 53, 54, 55, 56, 57, 97, 98, 99, 100, 101, 102]
def hexI (y : UInt8) : Int := match hexJ y with | some n => n | none => -1
theorem hex_idx (y : UInt8) : Lib.indexByte dgL (if 65 ≤ y.toNat ∧ y.toNat ≤ 70 then ((y.toNat : Int) + 32).toNat.toUInt8 else ((y.toNat : Int)).toNat.toUInt8) = hexI y := by
  refine byte_all (p := fun y => Lib.indexByte dgL (if 65 ≤ y.toNat ∧ y.toNat ≤ 70 then ((y.toNat : Int) + 32).toNat.toUInt8 else ((y.toNat : Int)).toNat.toUInt8) = hexI y) ?_ y
  decide +kernel
theorem hexJ_lt {y : UInt8} {n : Nat} (h : hexJ y = some n) : n < 16 := by
  unfold hexJ at h
  split at h
  · cases h; omega
  · split at h
    · cases h; omega
    · split at h
      · cases h; omega
      · cases h
def foldH : Nat → List UInt8 → Option Nat
  | x, [] => some x
  | x, c :: r => match hexJ c with | some n => foldH (x * 16 + n) r | none => none
theorem four_fold (a b c d : UInt8) (r : List UInt8) : fourJ (a :: b :: c :: d :: r) = (foldH 0 [a, b, c, d]).map fun x => (x, r) := by
  cases ha : hexJ a <;> cases hb : hexJ b <;> cases hc : hexJ c <;> cases hd : hexJ d <;> simp [fourJ, foldH, ha, hb, hc, hd]
theorem four_short {r : List UInt8} (h : r.length < 4) : fourJ r = none := by
  unfold fourJ
  split
  · simp at h; omega
  · rfl
theorem four_split {s : List UInt8} {i : Nat} (h : i + 4 ≤ s.length) : ∃ a b c d, s.drop i = a :: b :: c :: d :: s.drop (i + 4) := by
  obtain ⟨a, ha⟩ := at_q (s := s) (i := i) (by omega)
  obtain ⟨b, hb⟩ := at_q (s := s) (i := i + 1) (by omega)
  obtain ⟨c, hc⟩ := at_q (s := s) (i := i + 1 + 1) (by omega)
  obtain ⟨d, hd⟩ := at_q (s := s) (i := i + 1 + 1 + 1) (by omega)
  exact ⟨a, b, c, d, by rw [drop_q ha, drop_q hb, drop_q hc, drop_q hd]⟩
theorem i32_in (z : Int) (h : -2147483648 ≤ z ∧ z ≤ 2147483647) : IntKind.i32.wrap z = z := by rw [IntKind.wrap_i32]; omega
theorem i32_or {a x : Nat} (ha : a < 65536) (hx : x < 16) : Op.intBits .or .i32 ((a * 16 : Nat) : Int) (x : Int) = pure (.int .i32 ((a * 16 + x : Nat) : Int)) := by
  have e : (BitVec.ofInt 32 ((a * 16 : Nat) : Int) ||| BitVec.ofInt 32 (x : Int)).toNat = a * 16 + x := by
    rw [BitVec.toNat_or, BitVec.ofInt_natCast, BitVec.ofInt_natCast, BitVec.toNat_ofNat, BitVec.toNat_ofNat, Nat.mod_eq_of_lt (by omega), Nat.mod_eq_of_lt (by omega)]
    have := Nat.shiftLeft_add_eq_or_of_lt (i := 4) (b := x) hx a
    rw [Nat.shiftLeft_eq] at this
    exact this.symm
  show pure (Value.int .i32 (IntKind.i32.wrap (BitVec.ofInt 32 ((a * 16 : Nat) : Int) ||| BitVec.ofInt 32 (x : Int)).toNat)) = _
  rw [e, i32_in _ ⟨by omega, by omega⟩]
theorem i32_shl {a : Nat} (ha : a < 65536) : ((a * 16 : Nat) : Int) = shV .shl .i32 (a : Int) 4 := by
  show ((a * 16 : Nat) : Int) = IntKind.i32.wrap ((a : Int) * 16)
  rw [i32_in _ ⟨by omega, by omega⟩]; omega
set_option maxRecDepth 20000 in
set_option maxHeartbeats 4000000 in
theorem jfour_x (s : List UInt8) (hs : s.length ≤ 65536) (i : Nat) (hi : i ≤ s.length) (ok : Bool) (g : Nat) (W : PW) (ho : OwnB W g (parC s i ok)) :
    CallsX Tryd.prog 209 ⟨[.pointer (some ⟨g, 0, none⟩)]⟩ [g] W fun v W' => ∃ z : Int, v = .int .i32 z ∧ ((∃ x : Nat, fourJ (s.drop i) = some (x, s.drop (i + 4)) ∧ x < 65536 ∧ z = x ∧ i + 4 ≤ s.length ∧ OwnB W' g (parC s (i + 4) ok)) ∨ (fourJ (s.drop i) = none ∧ z = -1 ∧ OwnB W' g (parC s i ok))) := by
  have hmax : (100000000 : Nat) ≤ maxLen := by decide
  refine methX hmix Tryd.func209 r209 (by kernel_rfl) ho [] rfl ?_
  refine ⟨rfl, _, (i64_in ((s.length : Int) - i) ⟨by omega, by omega⟩).symm, rfl, br_split (fun hq => ?_) (fun hq => ?_)⟩
  · have hq : (s.length : Int) - i < 4 := hq
    exact ret_m1 rfl rfl rfl rfl fun W' _ hw => ⟨_, rfl, .inr ⟨four_short (by rw [List.length_drop]; omega), rfl, hw⟩⟩
  have hq : ¬ (s.length : Int) - i < 4 := hq
  obtain ⟨a, b, c, d, hd⟩ := four_split (s := s) (i := i) (by omega)
  have ht : ((s.drop (i : Int).toNat).take (((i : Int) + 4).toNat - (i : Int).toNat)) = [a, b, c, d] := by
    rw [show (i : Int).toNat = i from rfl, hd, show ((i : Int) + 4).toNat - i = 4 by omega]; (first | done | rfl)
  refine ⟨rfl, _, (i64_in ((i : Int) + 4) ⟨by omega, by omega⟩).symm, ⟨by omega, by omega, by show ((i : Int) + 4) ≤ s.length; omega⟩, ?_⟩
  refine ⟨by show ((s.drop (i : Int).toNat).take (((i : Int) + 4).toNat - (i : Int).toNat)).length ≤ maxLen; rw [ht]; show 4 ≤ maxLen; omega, fun b2 c2 W1 l1 h1 h2 hrd _ => ?_⟩
  rw [ht] at hrd
  have hnone : foldH 0 [a, b, c, d] = none → fourJ (s.drop i) = none := fun h => by rw [hd, four_fold, h]; (first | done | rfl)
  have hsome : ∀ x, foldH 0 [a, b, c, d] = some x → fourJ (s.drop i) = some (x, s.drop (i + 4)) := fun x h => by rw [hd, four_fold, h]; (first | done | rfl)
  refine ⟨Nat × Nat, fun t => [(34, .v (.int .i64 t.1)), (3, .v (.int .i32 t.2))], fun _ => [[.v (strV s), .v (.int .i64 i), .v (.bool ok)]], fun _ => [], fun t _ => t.1 ≤ 4 ∧ t.2 < 16 ^ t.1 ∧ foldH 0 [a, b, c, d] = foldH t.2 ([a, b, c, d].drop t.1), fun t => 4 - t.1, (0, 0),
    all_sl ⟨rfl, rfl, trivial⟩, rfl, ole_refl _, ⟨by decide, by decide, rfl⟩, loopOK (fun _ => ⟨⟨trivial, rfl⟩, ⟨trivial, rfl⟩, trivial⟩) (fun _ => rfl) (fun _ => rfl), ?_⟩
  rintro ⟨k, x⟩ W2 l2 ⟨hk, hx, hf⟩ fr
  dsimp only at hk hx hf
  have hx4 : x < 16 ^ 4 := Nat.lt_of_lt_of_le hx (Nat.pow_le_pow_right (by decide) hk)
  have hx4 : x < 65536 := hx4
  refine ⟨rfl, br_split (fun hq2 => ?_) (fun hq2 => ?_)⟩
  rotate_left
  · have hq2 : ¬ (k : Int) < (((s.drop (i : Int).toNat).take (((i : Int) + 4).toNat - (i : Int).toNat)).length : Int) := hq2
    rw [ht] at hq2
    have hq2 : ¬ (k : Int) < 4 := hq2
    obtain rfl : k = 4 := by omega
    refine ⟨rfl, _, (i64_in ((i : Int) + 4) ⟨by omega, by omega⟩).symm, ?_⟩
    exact ret_m1 rfl rfl rfl rfl fun W' _ hw => ⟨_, rfl, .inl ⟨x, hsome x hf, hx4, rfl, by omega, hw⟩⟩
  have hq2 : (k : Int) < (((s.drop (i : Int).toNat).take (((i : Int) + 4).toNat - (i : Int).toNat)).length : Int) := hq2
  have hq3 := hq2
  rw [ht] at hq3
  have hq3 : (k : Int) < 4 := hq3
  obtain ⟨y, hy⟩ := at_q (s := [a, b, c, d]) (i := k) (by show k < 4; omega)
  rw [drop_q hy] at hf
  have hr := hrd k (byteV y) (by rw [List.getElem?_map, hy]; (first | done | rfl))
  have hx3 : x < 4096 := Nat.lt_of_lt_of_le hx (show 16 ^ k ≤ 16 ^ 3 from Nat.pow_le_pow_right (by decide) (by omega))
  have hidx := hex_idx y
  have hyl := y.toNat_lt
  have hld : RdO ⟨[[.v (strV s), .v (.int .i64 i), .v (.bool ok)]], [], W2⟩ ((⟨b2, 0, none⟩ : Addr).add ((k : Int).toNat * 1)) (byteV y) := by rw [Nat.mul_one]; exact (hr.mono l2).o
  have bad : hexJ y = none → foldH 0 [a, b, c, d] = none := fun h => by rw [hf]; unfold foldH; rw [h]
  have good : ∀ n, hexJ y = some n → foldH 0 [a, b, c, d] = foldH (x * 16 + n) ([a, b, c, d].drop (k + 1)) := fun n h => by rw [hf]; conv => lhs; unfold foldH; rw [h]
  refine ⟨⟨by omega, hq2⟩, _, rfl, byteV y, hld, rfl, br_split (fun g1 => ?q1) (fun g1 => ?q3)⟩
  case' q1 =>
    have g1 : (65 : Int) ≤ (y.toNat : Int) := g1
    refine ⟨rfl, br_split (fun g2 => ?r1) (fun g2 => ?r2)⟩
  case' r1 =>
    have g2 : (y.toNat : Int) ≤ 70 := g2
    refine ⟨rfl, _, (u8_in ((y.toNat : Int) + 32) ⟨by omega, by omega⟩).symm, ?_⟩
    refine call_v rfl (fun W' _ => CallsX.of_same (v := .int .i64 (Lib.indexByte dgL ((y.toNat : Int) + 32).toNat.toUInt8)) ⟨_, Tryd.func110, by kernel_rfl, by kernel_rfl⟩ (Tryd.strings_IndexByte ⟨⟨dgL⟩⟩ ((y.toNat : Int) + 32) W'.w)) (fun W3 v W4 l3 l4 hv => ?_)
    rw [if_pos ⟨by omega, by omega⟩] at hidx
    rw [hidx] at hv
  case' r2 =>
    have g2 : ¬ (y.toNat : Int) ≤ 70 := g2
    refine call_v rfl (fun W' _ => CallsX.of_same (v := .int .i64 (Lib.indexByte dgL (y.toNat : Int).toNat.toUInt8)) ⟨_, Tryd.func110, by kernel_rfl, by kernel_rfl⟩ (Tryd.strings_IndexByte ⟨⟨dgL⟩⟩ (y.toNat : Int) W'.w)) (fun W3 v W4 l3 l4 hv => ?_)
    rw [if_neg (by omega)] at hidx
    rw [hidx] at hv
  case' q3 =>
    have g1 : ¬ (65 : Int) ≤ (y.toNat : Int) := g1
    refine call_v rfl (fun W' _ => CallsX.of_same (v := .int .i64 (Lib.indexByte dgL (y.toNat : Int).toNat.toUInt8)) ⟨_, Tryd.func110, by kernel_rfl, by kernel_rfl⟩ (Tryd.strings_IndexByte ⟨⟨dgL⟩⟩ (y.toNat : Int) W'.w)) (fun W3 v W4 l3 l4 hv => ?_)
    rw [if_neg (by omega)] at hidx
    rw [hidx] at hv
  case r1 | r2 | q3 =>
    cases hh : hexJ y with
    | none =>
      have hv : v = .int .i64 (-1) := by rw [hv]; unfold hexI; rw [hh]
      subst hv
      refine ⟨rfl, ?_⟩
      exact ret_m1 rfl rfl rfl rfl fun W' _ hw => ⟨_, rfl, .inr ⟨hnone (bad hh), rfl, hw⟩⟩
    | some n =>
      have hv : v = .int .i64 (n : Int) := by rw [hv]; unfold hexI; rw [hh]
      subst hv
      have hn := hexJ_lt hh
      refine ⟨rfl, by decide, _, i32_shl hx4, (n : Int), (i32_in _ ⟨by omega, by omega⟩).symm, rfl, _, i32_or hx4 hn, rfl, _, (i64_in ((k : Int) + 1) ⟨by omega, by omega⟩).symm, (k + 1, x * 16 + n), all_sl ⟨rfl, rfl, trivial⟩, rfl, ole_refl _, ⟨by dsimp only; omega, ?_, good n hh⟩, by dsimp only; omega⟩
      dsimp only
      rw [Nat.pow_succ]; omega
theorem out_no {α : Type} {ok : Bool} {spec : Option (α × List UInt8)} {rest : List UInt8} {x : α} (h : spec = none) : Out ok false spec rest x := ⟨fun e => (by cases e), fun _ _ => h⟩
theorem out_same {α : Type} {ok : Bool} {spec : Option (α × List UInt8)} {rest : List UInt8} {x : α} (h : spec = some (x, rest)) : Out ok ok spec rest x := ⟨fun e => ⟨e, h⟩, fun e1 e2 => (by rw [e1] at e2; cases e2)⟩
def OutT (s : List UInt8) (i : Nat) (ok : Bool) (g : Nat) (spec : Option (List UInt8 × List UInt8)) (v : Value) (W' : PW) : Prop :=
  ∃ (t : List UInt8) (j : Nat) (ok' : Bool), i ≤ j ∧ j ≤ s.length ∧ t.length ≤ 4 * (j - i) ∧ v = strV t ∧ OwnB W' g (parC s j ok') ∧ Out ok ok' spec (s.drop j) t
theorem enc_len (z : Int) : (bytesJ (Utf8.encode z)).length ≤ 4 := by
  unfold Utf8.encode
  dsimp only
  generalize (if Utf8.valid z = true then z.toNat else Utf8.runeError) = c
  repeat' split
  all_goals first
    | exact (by decide : 1 ≤ 4)
    | exact (by decide : 2 ≤ 4)
    | exact (by decide : 3 ≤ 4)
    | exact (by decide : 4 ≤ 4)
theorem rune_le (n : Nat) {k : Nat} (h : 1 ≤ k) : (runeJ n).length ≤ 4 * k := by
  have : (runeJ n).length ≤ 4 := by unfold runeJ; exact enc_len _
  omega
theorem one_le {x : UInt8} {k : Nat} (h : 1 ≤ k) : [x].length ≤ 4 * k := by show 1 ≤ 4 * k; omega
theorem str_eta (b : ByteArray) : Value.string b = strV (bytesJ b) := rfl
theorem rune_v (n : Nat) : Value.string (Utf8.encode (n : Int)) = strV (runeJ n) := by unfold runeJ; exact str_eta _
theorem rune_z {z : Int} {n : Nat} (h : z = n) : Value.string (Utf8.encode z) = strV (runeJ n) := by rw [h]; exact rune_v n
set_option maxRecDepth 20000 in
set_option maxHeartbeats 4000000 in
theorem jchar_x (s : List UInt8) (hs : s.length ≤ 65536) (i : Nat) (hi : i ≤ s.length) (ok : Bool) (g : Nat) (W : PW) (ho : OwnB W g (parC s i ok)) :
    CallsX Tryd.prog 195 ⟨[.pointer (some ⟨g, 0, none⟩)]⟩ [g] W fun v W' => OutT s i ok g (charJ (s.drop i)) v W' := by
  refine methX hmix Tryd.func195 r195 (by kernel_rfl) ho [] rfl ?_
  refine call_m1 rfl rfl rfl rfl k209 (fun g' W' _ how => (jfour_x s hs i hi ok g' W' how).mono fun v W2 hv _ => ?_)
  obtain ⟨z, rfl, hv⟩ := hv
  rcases hv with ⟨x, hx, hxl, hz, hi4, hw⟩ | ⟨hx, hz, hw⟩
  rotate_left
  · refine ⟨_, hw, ?_⟩
    refine ⟨rfl, br_no (p := 55296 ≤ z) (by omega) ⟨rfl, br_yes (p := z < 0) (by omega) ?_⟩⟩
    refine call_m1 rfl rfl rfl rfl k126 (fun g' W' _ how => (jfail_x s i ok g' W' how).mono fun v W9 hw _ => ⟨_, hw, ?_⟩)
    exact ret_m1 rfl rfl rfl rfl fun W' _ hw => ⟨[], i, false, Nat.le_refl _, hi, Nat.zero_le _, rfl, hw, out_no (by unfold charJ; rw [hx])⟩
  refine ⟨_, hw, ?_⟩
  have hch : charJ (s.drop i) = if 55296 ≤ x ∧ x < 56320 ∧ (s.drop (i + 4)).take 2 = [92, 117] then match fourJ ((s.drop (i + 4)).drop 2) with
      | some (y, r') => if 56320 ≤ y ∧ y < 57344 then some (runeJ (65536 + (x - 55296) * 1024 + (y - 56320)), r') else none
      | none => none
    else if 55296 ≤ x ∧ x < 57344 then none else some (runeJ x, s.drop (i + 4)) := by unfold charJ; rw [hx]; (first | done | rfl)
  refine ⟨rfl, br_split (fun g1 => ?_) (fun g1 => ?_)⟩
  · have g1 : (55296 : Int) ≤ z := g1
    refine ⟨rfl, br_split (fun g2 => ?_) (fun g2 => ?_)⟩
    · have g2 : z < 56320 := g2
      refine call_m1 rfl rfl rfl rfl k127 (fun g' W' _ how => (jtake_x s [92, 117] hs (by decide) (i + 4) hi4 ok g' W' how).mono fun v W3 hv _ => ?_)
      rcases hv with ⟨e, rfl, hl, hw⟩ | ⟨e, rfl, hw⟩
      · have e : (s.drop (i + 4)).take 2 = [92, 117] := e
        have hl : i + 4 + 2 ≤ s.length := hl
        rw [if_pos ⟨by omega, by omega, e⟩, List.drop_drop] at hch
        refine ⟨_, hw, ?_⟩
        refine call_m1 rfl rfl rfl rfl k209 (fun g' W' _ how => (jfour_x s hs (i + 4 + 2) hl ok g' W' how).mono fun v W4 hv _ => ?_)
        obtain ⟨z2, rfl, hv⟩ := hv
        rcases hv with ⟨y, hy, hyl, hz2, hi6, hw⟩ | ⟨hy, hz2, hw⟩
        · refine ⟨_, hw, ?_⟩
          rw [hy] at hch
          dsimp only at hch
          refine ⟨rfl, br_split (fun g3 => ?u1) (fun g3 => ?u2)⟩
          case' u1 =>
            have g3 : (56320 : Int) ≤ z2 := g3
            refine ⟨rfl, br_split (fun g4 => ?u3) (fun g4 => ?u4)⟩
          case' u3 =>
            have g4 : z2 < 57344 := g4
            rw [if_pos ⟨by omega, by omega⟩] at hch
            refine ⟨rfl, ((x - 55296 : Nat) : Int), (by show ((x - 55296 : Nat) : Int) = IntKind.i32.wrap (z - 55296); rw [i32_in _ ⟨by omega, by omega⟩]; omega), by decide, (((x - 55296) * 1024 : Nat) : Int), (by show (((x - 55296) * 1024 : Nat) : Int) = IntKind.i32.wrap (((x - 55296 : Nat) : Int) * 1024); rw [i32_in _ ⟨by omega, by omega⟩]; omega), rfl, ((65536 + (x - 55296) * 1024 : Nat) : Int), (by show ((65536 + (x - 55296) * 1024 : Nat) : Int) = IntKind.i32.wrap (65536 + (((x - 55296) * 1024 : Nat) : Int)); rw [i32_in _ ⟨by omega, by omega⟩]; omega), rfl, ((y - 56320 : Nat) : Int), (by show ((y - 56320 : Nat) : Int) = IntKind.i32.wrap (z2 - 56320); rw [i32_in _ ⟨by omega, by omega⟩]; omega), rfl, ((65536 + (x - 55296) * 1024 + (y - 56320) : Nat) : Int), (by show ((65536 + (x - 55296) * 1024 + (y - 56320) : Nat) : Int) = IntKind.i32.wrap (((65536 + (x - 55296) * 1024 : Nat) : Int) + ((y - 56320 : Nat) : Int)); rw [i32_in _ ⟨by omega, by omega⟩]; omega), ?_⟩
            exact ret_m1 rfl rfl rfl rfl fun W' _ hw => ⟨runeJ (65536 + (x - 55296) * 1024 + (y - 56320)), i + 4 + 2 + 4, ok, by omega, hi6, rune_le _ (by omega), rune_v _, hw, out_same hch⟩
          case' u4 =>
            have g4 : ¬ z2 < 57344 := g4
            rw [if_neg (by omega)] at hch
          case' u2 =>
            have g3 : ¬ (56320 : Int) ≤ z2 := g3
            rw [if_neg (by omega)] at hch
          case u4 | u2 =>
            refine ⟨rfl, ?_⟩
            refine call_m1 rfl rfl rfl rfl k126 (fun g' W' _ how => (jfail_x s (i + 4 + 2 + 4) ok g' W' how).mono fun v W9 hw _ => ⟨_, hw, ?_⟩)
            exact ret_m1 rfl rfl rfl rfl fun W' _ hw => ⟨[], i + 4 + 2 + 4, false, by omega, hi6, Nat.zero_le _, rfl, hw, out_no hch⟩
        · refine ⟨_, hw, ?_⟩
          rw [hy] at hch
          refine ⟨rfl, br_no (p := 56320 ≤ z2) (by omega) ⟨rfl, ?_⟩⟩
          refine call_m1 rfl rfl rfl rfl k126 (fun g' W' _ how => (jfail_x s (i + 4 + 2) ok g' W' how).mono fun v W9 hw _ => ⟨_, hw, ?_⟩)
          exact ret_m1 rfl rfl rfl rfl fun W' _ hw => ⟨[], i + 4 + 2, false, by omega, hl, Nat.zero_le _, rfl, hw, out_no hch⟩
      · have e : ¬ (s.drop (i + 4)).take 2 = [92, 117] := e
        rw [if_neg (fun h => e h.2.2), if_pos ⟨by omega, by omega⟩] at hch
        refine ⟨_, hw, ?_⟩
        refine ⟨rfl, br_no (p := z < 0) (by omega) ⟨rfl, br_yes (p := 55296 ≤ z) (by omega) ⟨rfl, br_yes (p := z < 57344) (by omega) ?_⟩⟩⟩
        refine call_m1 rfl rfl rfl rfl k126 (fun g' W' _ how => (jfail_x s (i + 4) ok g' W' how).mono fun v W9 hw _ => ⟨_, hw, ?_⟩)
        exact ret_m1 rfl rfl rfl rfl fun W' _ hw => ⟨[], i + 4, false, by omega, hi4, Nat.zero_le _, rfl, hw, out_no hch⟩
    · have g2 : ¬ z < 56320 := g2
      rw [if_neg (fun h => by omega)] at hch
      refine ⟨rfl, br_no (p := z < 0) (by omega) ⟨rfl, br_yes (p := 55296 ≤ z) (by omega) ⟨rfl, br_split (fun g3 => ?_) (fun g3 => ?_)⟩⟩⟩
      · have g3 : z < 57344 := g3
        rw [if_pos ⟨by omega, by omega⟩] at hch
        refine call_m1 rfl rfl rfl rfl k126 (fun g' W' _ how => (jfail_x s (i + 4) ok g' W' how).mono fun v W9 hw _ => ⟨_, hw, ?_⟩)
        exact ret_m1 rfl rfl rfl rfl fun W' _ hw => ⟨[], i + 4, false, by omega, hi4, Nat.zero_le _, rfl, hw, out_no hch⟩
      · have g3 : ¬ z < 57344 := g3
        rw [if_neg (fun h => by omega)] at hch
        exact ret_m1 rfl rfl rfl rfl fun W' _ hw => ⟨runeJ x, i + 4, ok, by omega, hi4, rune_le _ (by omega), rune_z hz, hw, out_same hch⟩
  · have g1 : ¬ (55296 : Int) ≤ z := g1
    rw [if_neg (fun h => by omega), if_neg (fun h => by omega)] at hch
    refine ⟨rfl, br_no (p := z < 0) (by omega) ⟨rfl, br_no (p := 55296 ≤ z) (by omega) ?_⟩⟩
    exact ret_m1 rfl rfl rfl rfl fun W' _ hw => ⟨runeJ x, i + 4, ok, by omega, hi4, rune_le _ (by omega), rune_z hz, hw, out_same hch⟩
theorem enc_low : ∀ n : Nat, n < 128 → bytesJ (Utf8.encode (n : Int)) = [UInt8.ofNat n] := by decide +kernel
theorem enc_v {z : Int} {c : UInt8} (h : z = c.toNat) (hc : c.toNat < 128) : Value.string (Utf8.encode z) = strV [c] := by
  rw [h, str_eta, enc_low _ hc]; simp
set_option maxRecDepth 20000 in
set_option maxHeartbeats 4000000 in
theorem jesc_x (s : List UInt8) (hs : s.length ≤ 65536) (i : Nat) (hi : i ≤ s.length) (ok : Bool) (g : Nat) (W : PW) (ho : OwnB W g (parC s i ok)) :
    CallsX Tryd.prog 167 ⟨[.pointer (some ⟨g, 0, none⟩)]⟩ [g] W fun v W' => OutT s i ok g (escJ (s.drop i)) v W' := by
  refine methX hmix Tryd.func167 r167 (by kernel_rfl) ho [] rfl ?_
  refine ⟨rfl, br_split (fun g0 => ?_) (fun g0 => ?_)⟩
  · have g0 : (i : Int) = (s.length : Int) := g0
    refine call_m1 rfl rfl rfl rfl k126 (fun g' W' _ how => (jfail_x s i ok g' W' how).mono fun v W9 hw _ => ⟨_, hw, ?_⟩)
    exact ret_m1 rfl rfl rfl rfl fun W' _ hw => ⟨[], i, false, Nat.le_refl _, hi, Nat.zero_le _, rfl, hw, out_no (by rw [List.drop_eq_nil_of_le (by omega)]; (first | done | rfl))⟩
  have g0 : ¬ (i : Int) = (s.length : Int) := g0
  have hil : i < s.length := by omega
  obtain ⟨c, hx⟩ := at_q (s := s) (i := i) hil
  have hb : byteAt s (i : Int).toNat = c.toNat := byteAt_get hx
  have hd : s.drop i = c :: s.drop (i + 1) := drop_q hx
  have hcl := c.toNat_lt
  have hE : escJ (s.drop i) = match nameJ c with | some t => some (t, s.drop (i + 1)) | none => if c.toNat = 117 then charJ (s.drop (i + 1)) else none := by rw [hd]; (first | done | rfl)
  refine ⟨⟨by omega, by show (i : Int) < s.length; omega⟩, ?_⟩
  obtain ⟨z, hz⟩ : ∃ z, byteAt s (i : Int).toNat = z := ⟨_, rfl⟩
  generalize byteAt s (i : Int).toNat = z at hb ⊢
  refine ⟨rfl, _, (i64_in ((i : Int) + 1) ⟨by omega, by omega⟩).symm, ?_⟩
  have one : (c.toNat = 34 ∨ c.toNat = 92 ∨ c.toNat = 47) → escJ (s.drop i) = some ([c], s.drop (i + 1)) := fun h => by rw [hE]; unfold nameJ; rw [if_pos h]
  have other : ∀ t, nameJ c = some t → escJ (s.drop i) = some (t, s.drop (i + 1)) := fun t h => by rw [hE, h]
  have named : nameJ c = if c.toNat = 34 ∨ c.toNat = 92 ∨ c.toNat = 47 then some [c] else if c.toNat = 98 then some [8] else if c.toNat = 102 then some [12] else if c.toNat = 110 then some [10] else if c.toNat = 114 then some [13] else if c.toNat = 116 then some [9] else none := rfl
  refine ⟨rfl, br_split (fun g1 => ?s1) (fun g1 => ⟨rfl, br_split (fun g2 => ?s2) (fun g2 => ⟨rfl, br_split (fun g3 => ?s3) (fun g3 => ?s4)⟩)⟩)⟩
  case' s1 =>
    have g1 : z = 34 := g1
    have hone := one (by omega)
    refine br_yes (p := z = 34) g1 ?_
  case' s2 =>
    have g2 : z = 92 := g2
    have hone := one (by omega)
    refine br_yes (p := z = 92) g2 ?_
  case' s3 =>
    have g3 : z = 47 := g3
    have hone := one (by omega)
  case s1 | s2 | s3 =>
    refine ⟨_, (i32_in z ⟨by omega, by omega⟩).symm, ?_⟩
    exact ret_m1 rfl rfl rfl rfl fun W' _ hw => ⟨[c], i + 1, ok, by omega, hil, one_le (by omega), enc_v hb (by omega), hw, out_same hone⟩
  have g1 : ¬ z = 34 := g1
  have g2 : ¬ z = 92 := g2
  have g3 : ¬ z = 47 := g3
  rw [if_neg (by omega)] at named
  refine ⟨rfl, br_split (fun g4 => ?_) (fun g4 => ?_)⟩
  · have g4 : z = 98 := g4
    rw [if_pos (by omega)] at named
    exact ret_m1 rfl rfl rfl rfl fun W' _ hw => ⟨[8], i + 1, ok, by omega, hil, one_le (by omega), rfl, hw, out_same (other _ named)⟩
  have g4 : ¬ z = 98 := g4
  rw [if_neg (by omega)] at named
  refine ⟨rfl, br_split (fun g5 => ?_) (fun g5 => ?_)⟩
  · have g5 : z = 102 := g5
    rw [if_pos (by omega)] at named
    exact ret_m1 rfl rfl rfl rfl fun W' _ hw => ⟨[12], i + 1, ok, by omega, hil, one_le (by omega), rfl, hw, out_same (other _ named)⟩
  have g5 : ¬ z = 102 := g5
  rw [if_neg (by omega)] at named
  refine ⟨rfl, br_split (fun g6 => ?_) (fun g6 => ?_)⟩
  · have g6 : z = 110 := g6
    rw [if_pos (by omega)] at named
    exact ret_m1 rfl rfl rfl rfl fun W' _ hw => ⟨[10], i + 1, ok, by omega, hil, one_le (by omega), rfl, hw, out_same (other _ named)⟩
  have g6 : ¬ z = 110 := g6
  rw [if_neg (by omega)] at named
  refine ⟨rfl, br_split (fun g7 => ?_) (fun g7 => ?_)⟩
  · have g7 : z = 114 := g7
    rw [if_pos (by omega)] at named
    exact ret_m1 rfl rfl rfl rfl fun W' _ hw => ⟨[13], i + 1, ok, by omega, hil, one_le (by omega), rfl, hw, out_same (other _ named)⟩
  have g7 : ¬ z = 114 := g7
  rw [if_neg (by omega)] at named
  refine ⟨rfl, br_split (fun g8 => ?_) (fun g8 => ?_)⟩
  · have g8 : z = 116 := g8
    rw [if_pos (by omega)] at named
    exact ret_m1 rfl rfl rfl rfl fun W' _ hw => ⟨[9], i + 1, ok, by omega, hil, one_le (by omega), rfl, hw, out_same (other _ named)⟩
  have g8 : ¬ z = 116 := g8
  rw [if_neg (by omega)] at named
  rw [named] at hE
  refine ⟨rfl, br_split (fun g9 => ?_) (fun g9 => ?_)⟩
  · have g9 : z = 117 := g9
    dsimp only at hE
    rw [if_pos (by omega)] at hE
    refine call_m1 rfl rfl rfl rfl k195 (fun g' W' _ how => (jchar_x s hs (i + 1) hil ok g' W' how).mono fun v W9 hv _ => ?_)
    obtain ⟨t, j, ok', h1, h2, ht, rfl, hw, ho'⟩ := hv
    refine ⟨_, hw, ?_⟩
    exact ret_m1 rfl rfl rfl rfl fun W' _ hw => ⟨t, j, ok', by omega, h2, by omega, rfl, hw, by rw [hE]; exact ho'⟩
  · have g9 : ¬ z = 117 := g9
    dsimp only at hE
    rw [if_neg (by omega)] at hE
    refine call_m1 rfl rfl rfl rfl k126 (fun g' W' _ how => (jfail_x s (i + 1) ok g' W' how).mono fun v W9 hw _ => ⟨_, hw, ?_⟩)
    exact ret_m1 rfl rfl rfl rfl fun W' _ hw => ⟨[], i + 1, false, by omega, hil, Nat.zero_le _, rfl, hw, out_no hE⟩
end Go.Proofs.YtkhgmmejgikgnaaDoor

/- (*strings.Builder).String inside a method: the receiver's block is another. -/
namespace Go.Proofs.YtkhgmmejgikgnaaDoor
open Go.RowKit

section
variable {P : Program} {B : Base}
theorem call_inlG (hmix : P.follows .mixedOrders = true) {fid : FuncId} {fn : Func} {mf : MF} (hf : P.funcs[fid]? = some fn) (hm : resF P fn = some mf) (hname : (fn.name == "runtime.NumGoroutine") = false)
    {args : List GV} {vs : List Value} (hp : plainGs args = some vs) (hlen : Nat.ble vs.length mf.N = true) {S : GS} {K : GV → GS → Prop}
    (hvc : ∀ rc : List Nat, (∀ b, b ∈ B.rc → b ∈ rc) → vc P ⟨B.W, B.ex, rc⟩ (initV vs) S (inlK mf.rs K) mf.code) : CallVC P B fid args [] S K := by
  unfold resF at hm
  split at hm
  · rename_i c hb
    split at hm
    · rename_i mc rs hc hr
      simp only [Option.some.injEq] at hm
      subst hm
      refine ⟨⟨fn, hf, by rw [hb]; (first | done | rfl), hname⟩, fun ρ w hst => ?_⟩
      rw [plainGs_real hp ρ]
      have hrc : ∀ (k g : Nat), ((List.range S.σ.length).map ρ)[k]? = some g → k < S.σ.length ∧ ρ k = g := by
        intro k g hk
        have hl := (List.getElem?_eq_some_iff.1 hk).1
        simp only [List.length_map, List.length_range] at hl
        rw [List.getElem?_map, List.getElem?_range hl] at hk
        exact ⟨hl, Option.some.inj hk⟩
      have hst' : St ⟨B.W, B.ex, (List.range S.σ.length).map ρ⟩ ρ S w := ⟨hst.keep, hst.vsize, hst.vblock, hst.mono, hst.back, hst.loc, hst.locA, hst.inj, hst.cells, hrc, hst.own, hst.sep⟩
      refine calls_of_wp hf hb ?_
      have hrel : Rel fn.ntmps ρ (initV vs) S.σ.length { tmps := (⟨vs⟩ : Array Value) ++ Array.replicate (fn.ntmps - (⟨vs⟩ : Array Value).size) undef, defers := [] } := by
        have hlen' : vs.length ≤ fn.ntmps := ble_le hlen
        refine ⟨rfl, by simp; omega, fun i => ?_, fun _ => trivial⟩
        show _ = vs.getD i undef
        rcases Nat.lt_or_ge i vs.length with h1 | h1
        · simp [Array.getElem?_append, h1]
        · simp [Array.getElem?_append, Nat.not_lt.2 h1, Array.getElem?_replicate]
          split <;> rfl
      refine Code.wp_mono (fun e a w' hq => ?_) (code_sound hmix hc (S₀ := S) (PW.Le.refl _) (Nat.le_refl _) (by simp) hrel hst' (hvc _ fun b hb => by
        obtain ⟨k, hk⟩ := List.getElem?_of_mem hb
        obtain ⟨k1, k2⟩ := hst.rc k b hk
        exact List.mem_map.2 ⟨k, List.mem_range.2 k1, k2⟩))
      have fin : ∀ f S1 ρ1, S.W.Le S1.W → S.σ.length ≤ S1.σ.length → Rel fn.ntmps ρ1 f S1.σ.length a → St ⟨B.W, B.ex, (List.range S.σ.length).map ρ⟩ ρ1 S1 w' → (match resG f S1 rs with | some l => ∃ v, plainRet l = some v ∧ K (.v v) S1 | none => False) →
          a.defers = [] ∧ ∃ v, (results fn a.tmps).run P w' = .ok v w' ∧ ∃ (g : GV) (S' : GS) (ρ' : Nat → Nat), Ending.returned v = .returned (g.real ρ') ∧ (∀ k, k < S.σ.length → ρ' k = ρ k) ∧ Grow [] S S' ∧ g.lt S'.σ.length ∧ St B ρ' S' w' ∧ K g S' := by
        intro f S1 ρ1 h1 h2 h3 h4 h5
        split at h5
        · rename_i gs hgs
          obtain ⟨v, hv, hK⟩ := h5
          have hag : ∀ k, k < S.σ.length → ρ1 k = ρ k := fun k hk => (h4.rc k (ρ k) (by rw [List.getElem?_map, List.getElem?_range hk]; (first | done | rfl))).2
          refine ⟨h3.defers, _, retVal_run h3 h4 hr hgs, .v v, S1, ρ1, by rw [plainRet_real hv ρ1]; (first | done | rfl), hag, ⟨h2, h1, ⟨fun _ hk => (by cases hk), fun hk => (by cases hk)⟩⟩, trivial, ?_, hK⟩
          exact ⟨h4.keep, h4.vsize, h4.vblock, h4.mono, h4.back, h4.loc, h4.locA, h4.inj, h4.cells, fun k g hk => by
            obtain ⟨k1, k2⟩ := hst.rc k g hk
            exact ⟨Nat.lt_of_lt_of_le k1 h2, (hag k k1).trans k2⟩, h4.own, h4.sep⟩
        · exact h5.elim
      cases e with
      | normal => obtain ⟨f, S1, ρ1, g1, g2, h1, h2, h3⟩ := hq; exact fin f S1 ρ1 g1 g2 h1 h2 h3
      | ret => obtain ⟨f, S1, ρ1, g1, g2, h1, h2, h3⟩ := hq; exact fin f S1 ρ1 g1 g2 h1 h2 h3
      | exit id => obtain ⟨f, S1, ρ1, _, _, _, _, h3⟩ := hq; exact h3.elim
      | goto l => exact hq.elim
      | panic ch => exact hq.elim
      | outgrown => exact hq.elim
    · cases hm
  · cases hm

/-- unsafe.String, the first time: the bytes are shared from now on. -/
theorem bld_us1G {o : Oper} {x y : Operand} {t u e : TypeId} {f : Fr} {prot : List Nat} {σ : List (List PV)} {O : List Own} {W : PW} {K : GV → GS → Prop} (ho : o.op = .call { callee := .builtin .unsafeString, args := #[x, y], argTypes := #[t, u] })
    (ht : P.underlying t = some (.pointer e)) (hc : P.cellsOf e = 1) (hex : ∀ b, b ∈ B.ex → b ∈ B.rc) {g c j : Nat} {l : List UInt8} (hx : evG f x = .v (.pointer (some ⟨g, 0, none⟩))) (hy : evG f y = .v (.int .i64 l.length))
    (hj : O[j]? = some ⟨.slice (some ⟨g, 0, none⟩) l.length c, e, 1, l.length, l.map byteV⟩) (hl : l ≠ []) (h63 : l.length ≤ 9223372036854775807) (h0 : prot.contains 0 = false)
    (hK : ∀ W', W.Le W' → Frz W' e g l → K (.v (.string ⟨⟨l⟩⟩)) ⟨σ, O.eraseIdx j, W'⟩) : RawVC P B o f prot ⟨σ, O, W⟩ K := by
  refine ⟨fun ρ w ev hev hst => ?_⟩
  have e1 := hev x; rw [hx] at e1
  have e2 := hev y; rw [hy] at e2
  obtain ⟨h1, h2⟩ := hst.own j _ hj
  have hln : l.length ≠ 0 := by simpa using hl
  rcases h1.2 with ⟨h3, _⟩ | ⟨g', cap, cur, hv, _, hg, hnc, hcm, hcs, htake⟩
  · cases h3
  obtain ⟨rfl, rfl⟩ : g = g' ∧ c = cap := by simpa using hv
  have hcs : cur.size = c := by simpa using hcs
  have hnc : l.length ≤ c := hnc
  have htake : cur.toList.take l.length = l.map byteV := by simpa using htake
  have hcur : ∀ (k : Nat) (b : UInt8), l[k]? = some b → cur[k]? = some (byteV b) := by
    intro k b hk
    have hkl := (List.getElem?_eq_some_iff.1 hk).1
    rw [← Array.getElem?_toList, ← List.getElem?_take_of_lt hkl, htake, List.getElem?_map, hk]; (first | done | rfl)
  have hcell : ∀ (k : Nat) (b : UInt8), l[k]? = some b → w.cell? ((⟨g, 0, none⟩ : Addr).add k) = some (.int .u8 b.toNat) := by
    intro k b hk
    rw [add_lit, Nat.zero_add]
    simp only [World.cell?, hg]
    exact hcur k b hk
  obtain ⟨k1, k2, k3, k4, k5, k6⟩ := freeze_row hg hln
  have hrun : (execOp ev o).run P w = .ok (.value (.string ⟨⟨l⟩⟩)) (w.freeze ⟨g, 0, none⟩ l.length) := by
    obtain ⟨dst, op, type, pos, after, guard⟩ := o
    obtain rfl : op = .call { callee := .builtin .unsafeString, args := #[x, y], argTypes := #[t, u] } := ho
    have hr := Lib.run_unsafeString_row (P := P) w t u type e ht hc g cur.size (by simp [World.shape?, hg]) l hl (by omega) h63 hcell
    simp only [execOp, resolve, invoke, builtin, Sem.run_bind, Sem.run_pure, Result.andThen_ok, List.map_toArray, List.map_cons, List.map_nil, e1, e2, GV.real, hr]
  have hg2 := h2 g rfl
  have hBg : B.W.w.heap.size ≤ g := hg2.2.1.elim (fun hb => by
    obtain ⟨k, hk⟩ := List.getElem?_of_mem (hex g hb)
    obtain ⟨r1, r2⟩ := hst.rc k g hk
    exact absurd r2 (hg2.2.2 k r1)) id
  have hglt := heap_lt hg
  let W' : PW := ⟨w.freeze ⟨g, 0, none⟩ l.length, fun b => W.A b ∨ b = g, fun b hb => by
    rw [k3]
    rcases hb with hb | rfl
    · exact hst.A_lt hb
    · exact hglt⟩
  have hAne : ∀ b, W.A b → b ≠ g := fun b hb e => hg2.1 (e ▸ hb)
  have hle : W.Le W' := ⟨by show _ ≤ (w.freeze _ _).heap.size; rw [k3]; exact hst.vsize, fun _ hb => .inl hb, fun b hb => by
    show (w.freeze _ _).heap[b]? = _
    rw [k2 b (hAne b hb)]; exact hst.vblock b hb⟩
  refine ⟨.v _, ⟨σ, O.eraseIdx j, W'⟩, ρ, _, hrun, fun _ _ => rfl, ⟨Nat.le_refl _, hle, ⟨fun _ _ => rfl, fun hk => absurd hk (not_mem_of h0)⟩⟩, trivial, ?_, hK W' hle ⟨.inr rfl, cur, k1, by omega, hcur⟩⟩
  refine ⟨⟨k4.trans hst.keep.os, k5.trans hst.keep.tape, k6.trans hst.keep.output, by rw [k3]; exact hst.keep.size, fun b hb he => ?_⟩, Nat.le_refl _, fun _ _ => rfl, hst.mono.trans hle, ?_, ?_, ?_, hst.inj, hst.cells, hst.rc, ?_, erase_sep hst⟩
  · rw [k2 b (by omega)]; exact hst.keep.block b hb he
  · intro b hb
    rcases hb with hb | rfl
    · exact hst.back b hb
    · exact .inr hBg
  · intro k cs hk
    obtain ⟨e', he'⟩ := hst.loc k cs hk
    exact ⟨e', by rw [k2 _ (hg2.2.2 k (List.getElem?_eq_some_iff.1 hk).1)]; exact he'⟩
  · intro k hk
    refine ⟨fun hA => ?_, (hst.locA k hk).2⟩
    rcases hA with hA | hA
    · exact (hst.locA k hk).1 hA
    · exact hg2.2.2 k hk hA
  · intro i oi hi
    obtain ⟨j', hne, hj', _⟩ := erase_mem i oi hi
    obtain ⟨m1, m2⟩ := hst.own j' oi hj'
    have hob : ∀ b, oi.v.ownBlock = some b → b ≠ g := fun b hb e => hne (hst.sep j' j oi _ b hj' hj hb (by rw [e]; (first | done | rfl)))
    refine ⟨⟨m1.1, ?_⟩, fun b hb => ⟨fun hA => ?_, (m2 b hb).2⟩⟩
    · rcases m1.2 with q | ⟨g2, cap2, cur2, q1, q2, q3, q4⟩
      · exact .inl q
      · exact .inr ⟨g2, cap2, cur2, q1, q2, (k2 g2 (hob g2 (by rw [q1]; (first | done | rfl)))).trans q3, q4⟩
    · rcases hA with hA | hA
      · exact (m2 b hb).1 hA
      · exact hob b hb hA
end
section
variable {B : Base} {σ : List (List PV)} {O : List Own} {W : PW} {K : GV → GS → Prop}
theorem bld_strG {i j b c : Nat} {p : Value} {A : Option Addr} {l : List UInt8} (hex : ∀ b, b ∈ B.ex → b ∈ B.rc) (hi : O[i]? = some (bldO b p (.slice A l.length c))) (hj : O[j]? = some (bufO (.slice A l.length c) l)) (hl : l ≠ []) (h63 : l.length ≤ 9223372036854775807)
    (hK : ∀ g W', A = some ⟨g, 0, none⟩ → c ≠ 0 → W.Le W' → Frz W' 5 g l → K (.v (strV l)) ⟨σ, O.eraseIdx j, W'⟩) : CallVC Tryd.prog B 65 [.v (bldP b)] [] ⟨σ, O, W⟩ K := by
  refine call_inlG (vs := [bldP b]) hmix Tryd.func65 r65 (by kernel_rfl) rfl rfl fun rc hrc => ?_
  have hl0 : l.length ≠ 0 := by simpa using hl
  refine ⟨.slice A l.length c, .inr ⟨i, _, ⟨b, 0, none⟩, 2, 2, 1, hi, rfl, rfl, rfl⟩, .slice A l.length c, .inr ⟨i, _, ⟨b, 0, none⟩, 2, 2, 1, hi, rfl, rfl, rfl⟩, ?_⟩
  refine bld_sd (j := j) (ow := bufO (.slice A l.length c) l) rfl rfl hj hl0 fun g c' hv hc => ?_
  obtain ⟨rfl, rfl⟩ : A = some ⟨g, 0, none⟩ ∧ c = c' := by simpa [bufO] using hv
  refine bld_us1G (j := j) (e := 5) (g := g) (c := c) (l := l) rfl Tryd.underlying142 Tryd.Builder_Extra_156.cellsByte (fun b hb => hrc b (hex b hb)) rfl rfl hj hl h63 rfl fun W' hle hF => ?_
  exact ⟨_, rfl, hK g W' rfl hc hle hF⟩
end
end Go.Proofs.YtkhgmmejgikgnaaDoor

/- Layer 6 (json), walked: a text in its signs. -/
namespace Go.Proofs.YtkhgmmejgikgnaaDoor
open Go.RowKit

structure JSt where
  j : Nat
  ok : Bool
  s : BSt
theorem sign_out {s : List UInt8} {j f : Nat} {out : List UInt8} {c : UInt8} (hx : s[j]? = some c) : signJ (f + 1) out (s.drop j) = if c.toNat < 32 then none else if c.toNat = 34 then some (out, s.drop (j + 1)) else if c.toNat = 92 then match escJ (s.drop (j + 1)) with | none => none | some (t, r') => signJ f (out ++ t) r'
    else signJ f (out ++ [c]) (s.drop (j + 1)) := by rw [drop_q hx]; (first | done | rfl)
theorem text_at {s : List UInt8} {i : Nat} (h : (s.drop i).take 1 = [34]) (hl : i + 1 ≤ s.length) : textJ (s.drop i) = signJ ((s.drop (i + 1)).length + 1) [] (s.drop (i + 1)) := by
  obtain ⟨c, hx⟩ := at_q (s := s) (i := i) (by omega)
  rw [drop_q hx] at h ⊢
  have h : c = 34 := by simpa using h
  unfold textJ
  dsimp only
  rw [if_pos h]
theorem text_not {r : List UInt8} (h : ¬ r.take 1 = [34]) : textJ r = none := by
  cases r with
  | nil => rfl
  | cons c r =>
    unfold textJ
    dsimp only
    rw [if_neg (by simpa using h)]
def TInv (s : List UInt8) (i : Nat) (ok : Bool) (b : Nat) (t : JSt) : Prop :=
  i ≤ t.j ∧ t.j ≤ s.length ∧ t.s.l.length ≤ 4 * (t.j - i) ∧ Used b t.s.p ∧ NilIff t.s.A t.s.c t.s.l ∧ (t.ok = true → ok = true ∧ ∃ f, textJ (s.drop i) = signJ f t.s.l (s.drop t.j) ∧ (s.drop t.j).length < f) ∧ (t.ok = false → ok = true → textJ (s.drop i) = none)
set_option maxRecDepth 20000 in
set_option maxHeartbeats 8000000 in
theorem jtext_x (s : List UInt8) (hs : s.length ≤ 65536) (i : Nat) (hi : i ≤ s.length) (ok : Bool) (g : Nat) (W : PW) (ho : OwnB W g (parC s i ok)) :
    CallsX Tryd.prog 128 ⟨[.pointer (some ⟨g, 0, none⟩)]⟩ [g] W fun v W' => OutT s i ok g (textJ (s.drop i)) v W' := by
  refine methNX hmix Tryd.func128 r128 (by kernel_rfl) ho [nilO 5 1] rfl [] rfl ?_
  obtain ⟨ti, tz, e1, e2, e3⟩ := bld_info
  refine bld_alloc rfl e1 e2 e3 fun b _ => ?_
  refine call_m1 rfl rfl rfl rfl k127 (fun g' W' _ how => (jtake_x s [34] hs (by decide) i hi ok g' W' how).mono fun v W2 hv _ => ?_)
  rcases hv with ⟨e, rfl, hl, hw⟩ | ⟨e, rfl, hw⟩
  case' inl =>
    have hl : i + 1 ≤ s.length := hl
    have hI : TInv s i ok b ⟨i + 1, ok, ⟨0, .pointer none, none, 0, []⟩⟩ := ⟨by dsimp only; omega, hl, Nat.zero_le _, .inl rfl, fun _ => ⟨rfl, rfl⟩, fun h => ⟨h, _, text_at e hl, Nat.lt_succ_self _⟩, fun h1 h2 => by
      have h1 : ok = false := h1
      rw [h1] at h2; cases h2⟩
    refine ⟨_, hw, ?_⟩
  case' inr =>
    have hI : TInv s i ok b ⟨i, false, ⟨0, .pointer none, none, 0, []⟩⟩ := ⟨Nat.le_refl _, hi, Nat.zero_le _, .inl rfl, fun _ => ⟨rfl, rfl⟩, fun h => (by cases h), fun _ _ => text_not e⟩
    refine ⟨_, hw, ?_⟩
    refine call_m1 rfl rfl rfl rfl k126 (fun g' W' _ how => (jfail_x s i ok g' W' how).mono fun v W9 hw _ => ⟨_, hw, ?_⟩)
  case inl | inr =>
    refine ⟨JSt, fun _ => [], fun t => [[.v (strV s), .v (.int .i64 t.j), .v (.bool t.ok)]], fun t => bO b t.s, fun t _ => TInv s i ok b t, fun t => 2 * (s.length - t.j) + (bif t.ok then 1 else 0), ⟨_, _, _⟩,
      all_sl trivial, rfl, ole_refl _, hI, loopOK (fun _ => trivial) (fun _ => rfl) (fun _ => rfl), ?_⟩
    clear hI
    rintro ⟨j, ok', ⟨n0, p, A, c, l⟩⟩ W5 l5 ⟨h1, h2, h3, h4, h5, h6, h7⟩ fr
    dsimp only at h1 h2 h3 h4 h5 h6 h7
    cases ok' with
    | false =>
      exact ret_m1 rfl rfl rfl rfl fun W' _ hw => ⟨[], j, false, h1, h2, Nat.zero_le _, rfl, hw, ⟨fun h => (by cases h), fun _ => h7 rfl⟩⟩
    | true =>
      obtain ⟨hok, f, hf, hfl⟩ := h6 rfl
      have hbad : signJ f l (s.drop j) = none → textJ (s.drop i) = none := fun h => by rw [hf, h]
      have hll : l.length ≤ 262144 := by omega
      refine ⟨rfl, br_split (fun g1 => ?_) (fun g1 => ?_)⟩
      · have g1 : (j : Int) = (s.length : Int) := g1
        have hd : s.drop j = [] := List.drop_eq_nil_of_le (by omega)
        refine call_m1 rfl rfl rfl rfl k126 (fun g' W' _ how => (jfail_x s j true g' W' how).mono fun v W9 hw _ => ⟨_, hw, ?_⟩)
        exact ret_m1 rfl rfl rfl rfl fun W' _ hw => ⟨[], j, false, h1, h2, Nat.zero_le _, rfl, hw, out_no (hbad (by rw [hd]; cases f <;> rfl))⟩
      have g1 : ¬ (j : Int) = (s.length : Int) := g1
      have hjl : j < s.length := by omega
      obtain ⟨c0, hx⟩ := at_q (s := s) (i := j) hjl
      have hb : byteAt s (j : Int).toNat = c0.toNat := byteAt_get hx
      obtain ⟨f, rfl⟩ : ∃ f', f = f' + 1 := ⟨f - 1, by omega⟩
      have hsg := sign_out (f := f) (out := l) hx
      have hdl : (s.drop (j + 1)).length < f := by
        rw [List.length_drop] at hfl ⊢; omega
      refine ⟨⟨by omega, by show (j : Int) < s.length; omega⟩, ?_⟩
      obtain ⟨z, hz⟩ : ∃ z, byteAt s (j : Int).toNat = z := ⟨_, rfl⟩
      generalize byteAt s (j : Int).toNat = z at hb ⊢
      refine ⟨rfl, br_split (fun g2 => ?_) (fun g2 => ?_)⟩
      · have g2 : z < 32 := g2
        rw [if_pos (by omega)] at hsg
        refine call_m1 rfl rfl rfl rfl k126 (fun g' W' _ how => (jfail_x s j true g' W' how).mono fun v W9 hw _ => ⟨_, hw, ?_⟩)
        exact ret_m1 rfl rfl rfl rfl fun W' _ hw => ⟨[], j, false, h1, h2, Nat.zero_le _, rfl, hw, out_no (hbad hsg)⟩
      have g2 : ¬ z < 32 := g2
      rw [if_neg (by omega)] at hsg
      refine ⟨⟨by omega, by show (j : Int) < s.length; omega⟩, ?_⟩
      have hb2 : byteAt s (j : Int).toNat = c0.toNat := byteAt_get hx
      obtain ⟨y, hy⟩ : ∃ y, byteAt s (j : Int).toNat = y := ⟨_, rfl⟩
      generalize byteAt s (j : Int).toNat = y at hb2 ⊢
      refine ⟨rfl, _, (i64_in ((j : Int) + 1) ⟨by omega, by omega⟩).symm, ?_⟩
      refine ⟨rfl, br_split (fun g3 => ?_) (fun g3 => ?_)⟩
      · have g3 : y = 34 := g3
        rw [if_pos (by omega)] at hsg
        rw [hsg] at hf
        by_cases hl0 : l = []
        · subst hl0
          obtain ⟨rfl, rfl⟩ := h5 rfl
          refine bld_str0 (i := 1) rfl ?_
          exact ret_m1 rfl rfl rfl rfl fun W' _ hw => ⟨[], j + 1, true, by omega, hjl, Nat.zero_le _, rfl, hw, ⟨fun _ => ⟨hok, hf⟩, fun h => (by cases h)⟩⟩
        · refine bld_strG (i := 1) (j := 0) (fun _ hb => hb) rfl rfl hl0 (by show l.length ≤ _; omega) fun g W9 hA hc l9 hF => ?_
          exact ret_m1 rfl rfl rfl rfl fun W' _ hw => ⟨l, j + 1, true, by omega, hjl, by omega, rfl, hw, ⟨fun _ => ⟨hok, hf⟩, fun h => (by cases h)⟩⟩
      have g3 : ¬ y = 34 := g3
      rw [if_neg (by omega)] at hsg
      refine ⟨rfl, br_split (fun g4 => ?_) (fun g4 => ?_)⟩
      · have g4 : y = 92 := g4
        rw [if_pos (by omega)] at hsg
        refine call_m1 rfl rfl rfl rfl k167 (fun g' W' _ how => (jesc_x s hs (j + 1) hjl true g' W' how).mono fun v W9 hv _ => ?_)
        obtain ⟨t, j', ok2, k1, k2, k3, rfl, hw, ho1, ho2⟩ := hv
        refine ⟨_, hw, ?_⟩
        refine bld_write (i := 1) (j := 0) (l := l) rfl rfl (by decide) h4 (by omega) fun A1 d1 hn => ?_
        refine ⟨⟨j', ok2, ⟨n0, bldP b, A1, d1, l ++ t⟩⟩, all_sl trivial, rfl, ole_refl _, ⟨by dsimp only; omega, k2, by dsimp only; rw [List.length_append]; omega, .inr rfl, ?_, ?_, ?_⟩, ?_⟩
        · intro e
          dsimp only at e
          obtain ⟨e1, e2⟩ := List.append_eq_nil_iff.1 e
          obtain ⟨rfl, rfl⟩ := h5 e1
          have := hn.2 ⟨by rw [e1]; (first | done | rfl), by rw [e2]; (first | done | rfl)⟩
          simp only [Value.slice.injEq] at this
          exact ⟨this.1, this.2.2⟩
        · intro e
          obtain ⟨_, e2⟩ := ho1 e
          rw [e2] at hsg
          refine ⟨hok, f, by rw [hf, hsg], ?_⟩
          dsimp only
          rw [List.length_drop] at hdl ⊢; omega
        · intro e _
          rw [ho2 e rfl] at hsg
          exact hbad hsg
        · dsimp only
          have : (bif ok2 then 1 else 0) ≤ 1 := by cases ok2 <;> decide
          show 2 * (s.length - j') + _ < 2 * (s.length - j) + 1
          omega
      · have g4 : ¬ y = 92 := g4
        rw [if_neg (by omega)] at hsg
        refine bld_wbyte (i := 1) (j := 0) c0 hb2 rfl rfl (by decide) h4 (by show l.length + 1 ≤ _; omega) fun A1 d1 W9 _ => ?_
        refine ⟨⟨j + 1, true, ⟨n0, bldP b, A1, d1, l ++ [c0]⟩⟩, all_sl trivial, rfl, ole_refl _, ⟨by dsimp only; omega, hjl, by dsimp only; rw [List.length_append]; show l.length + 1 ≤ _; omega, .inr rfl, NilIff.snoc _ _ _ _, fun _ => ⟨hok, f, by rw [hf, hsg], hdl⟩, fun e => (by cases e)⟩, ?_⟩
        show 2 * (s.length - (j + 1)) + 1 < 2 * (s.length - j) + 1
        omega
end Go.Proofs.YtkhgmmejgikgnaaDoor

/- Layer 6 (json), walked: a whole number. -/
namespace Go.Proofs.YtkhgmmejgikgnaaDoor
open Go.RowKit

section
variable {P : Program} {B : Base}
theorem raw_nenil_t {o : Oper} {t ty d : TypeId} {z : Value} {x : Operand} {f : Fr} {prot : List Nat} {S : GS} {K : GV → GS → Prop} (ht : P.underlying t = some (.interface (P.methodsAt t))) (ho : o.op = .binOp .neq t x (.const .nilIface) ty) (hx : evG f x = .v (.iface d z)) (hK : K (.v (.bool true)) S) : RawVC P B o f prot S K := by
  refine ⟨fun ρ w ev hev hst => ⟨.v (.bool true), S, ρ, w, ?_, fun _ _ => rfl, Grow.refl _ _, trivial, hst, hK⟩⟩
  obtain ⟨dst, op, type, pos, after, guard⟩ := o
  obtain rfl : op = .binOp .neq t x (.const .nilIface) ty := ho
  have e1 : ev x = .iface d z := by rw [hev, hx]; (first | done | rfl)
  have e2 : ev (.const .nilIface) = .nilIface := by rw [hev]; (first | done | rfl)
  simp only [execOp, e1, e2, eqGuard_at_iface, Sem.run_bind, Sem.run_pure, Result.andThen_ok, run_neq_held_nil w t d z ht]
  (first | done | rfl)
theorem raw_nenil_f {o : Oper} {t ty : TypeId} {x : Operand} {f : Fr} {prot : List Nat} {S : GS} {K : GV → GS → Prop} (ht : P.underlying t = some (.interface (P.methodsAt t))) (ho : o.op = .binOp .neq t x (.const .nilIface) ty) (hx : evG f x = .v .nilIface) (hK : K (.v (.bool false)) S) : RawVC P B o f prot S K := by
  refine ⟨fun ρ w ev hev hst => ⟨.v (.bool false), S, ρ, w, ?_, fun _ _ => rfl, Grow.refl _ _, trivial, hst, hK⟩⟩
  obtain ⟨dst, op, type, pos, after, guard⟩ := o
  obtain rfl : op = .binOp .neq t x (.const .nilIface) ty := ho
  have e1 : ev x = .nilIface := by rw [hev, hx]; (first | done | rfl)
  have e2 : ev (.const .nilIface) = .nilIface := by rw [hev]; (first | done | rfl)
  simp only [execOp, e1, e2, eqGuard_nil_constR, Sem.run_bind, Sem.run_pure, Result.andThen_ok, run_neq_nil_nil w t ht]
  (first | done | rfl)
end
/-- The library's table of powers of ten stands as it is. -/
def HTJ (W : PW) : Prop := W.A 5 ∧ Lib.TabIs Tryd.prog W.w "internal/strconv.uint64pow10" .u64 Lib.pow10Tab
theorem HTJ.mono {W W' : PW} (h : HTJ W) (l : W.Le W') : HTJ W' := by
  refine ⟨l.al _ h.1, ?_⟩
  have h2 := h.2
  have hg : Tryd.prog.globalNamed "internal/strconv.uint64pow10" = some 5 := by kernel_rfl
  unfold Lib.TabIs World.var? at *
  rw [hg] at h2 ⊢
  simp only [Option.bind_some] at h2 ⊢
  rw [l.bl _ h.1]
  exact h2
theorem fmt_x (n : Int) (h0 : -9223372036854775808 ≤ n) (h1 : n ≤ 9223372036854775807) (W : PW) (h : HTJ W) : CallsX Tryd.prog 137 ⟨[.int .i64 n, .int .i64 10]⟩ [] W fun v _ => v = strV (Lib.itoa n) :=
  CallsX.of_at ⟨_, Tryd.func137, by kernel_rfl, by kernel_rfl⟩ ((Tryd.strconv_FormatInt_10 n h0 h1 W.w h.2).mono fun _ _ ⟨he, k, os, hw⟩ => ⟨he, hw ▸ Lib.below_grow _ _ (Nat.le_refl _) k os⟩)
theorem parse_range {t : List UInt8} {v : Int} (h : Lib.parseIntB 64 t = .ok v) : -9223372036854775808 ≤ v ∧ v ≤ 9223372036854775807 := by
  unfold Lib.parseIntB at h
  split at h
  · cases h
  · dsimp only at h
    split at h
    · cases h
    · cases h
    · rename_i c r _ u hu
      split at h
      · cases h
      · rename_i h1
        split at h
        · cases h
        · rename_i h2
          simp only [Lib.NumEnd.ok.injEq] at h
          subst h
          by_cases hc : c.toNat = 45
          · simp only [hc, true_and, if_true] at h2 ⊢
            have : ¬ (2 : Nat) ^ 63 < u := h2
            omega
          · simp only [hc, not_false_eq_true, true_and, if_false] at h1 ⊢
            have : ¬ (2 : Nat) ^ 63 ≤ u := h1
            omega
def ParseR (v : Value) (t : List UInt8) : Prop :=
  match Lib.parseIntB 64 t with
  | .ok n => v = .tuple ⟨[.int .i64 n, .nilIface]⟩
  | _ => ∃ n e p, v = .tuple ⟨[.int .i64 n, .iface e p]⟩
theorem pint_x (s : List UInt8) (hs : s.length ≤ 1000000) (W : PW) (h : HE W) : CallsX Tryd.prog 170 ⟨[strV s, .int .i64 10, .int .i64 64]⟩ [] W fun v _ => ParseR v s := by
  have hcall : Callable Tryd.prog 170 := ⟨_, Tryd.func170, by kernel_rfl, by kernel_rfl⟩
  have hsz : (⟨⟨s⟩⟩ : ByteArray).size = s.length := rfl
  obtain ⟨⟨a, h1, h2⟩, b, h3, h4⟩ := h
  unfold ParseR
  cases ha : Lib.parseIntB 64 s with
  | ok n =>
    dsimp only
    refine CallsX.of_below hcall ((Tryd.strconv_ParseInt_10_at64_ok ⟨⟨s⟩⟩ (by rw [hsz]; omega) n ha W.w).mono fun e w' ⟨he, hw⟩ => ⟨_, he, ?_, rfl⟩)
    rcases hw with rfl | ⟨t, rfl⟩
    · exact Below.refl _ _
    · exact bytesWorld_below _ _ _
  | range =>
    dsimp only
    exact CallsX.of_below hcall ((Tryd.strconv_ParseInt_10_at64_range ⟨⟨s⟩⟩ (by rw [hsz]; omega) ha b W.w h3.2 h4).mono fun e w' ⟨N, he, _, _, hb⟩ => ⟨_, he, hb, _, _, _, rfl⟩)
  | _ =>
    dsimp only
    exact CallsX.of_below hcall ((Tryd.strconv_ParseInt_10_at64_syntax ⟨⟨s⟩⟩ (by rw [hsz]; omega) ha a W.w h1.2 h2).mono fun e w' ⟨N, he, _, _, hb⟩ => ⟨_, he, hb, _, _, _, rfl⟩)

def OutV (s : List UInt8) (i : Nat) (ok : Bool) (g : Nat) (spec : Option (JT × List UInt8)) (v : Value) (W' : PW) : Prop :=
  ∃ (x : JV) (j : Nat) (ok' : Bool), i ≤ j ∧ j ≤ s.length ∧ JOK W' x ∧ v = .agg ⟨x.cells⟩ ∧ OwnB W' g (parC s j ok') ∧ Out ok ok' spec (s.drop j) x.er
theorem signs_yes {r : List UInt8} {t : List UInt8} (h : r = 45 :: t) : signsJ r = 45 :: t.takeWhile digJ := by subst h; (first | done | rfl)
theorem signs_no {r : List UInt8} (h : ¬ r.take 1 = [45]) : signsJ r = r.takeWhile digJ := by
  unfold signsJ
  split
  · simp at h
  · rfl
theorem tw_le (p : UInt8 → Bool) (s : List UInt8) (i : Nat) (hi : i ≤ s.length) : i + ((s.drop i).takeWhile p).length ≤ s.length := by
  have := (List.takeWhile_sublist p (l := s.drop i)).length_le
  rw [List.length_drop] at this; omega
theorem tw_take (p : UInt8 → Bool) : ∀ r : List UInt8, r.takeWhile p = r.take (r.takeWhile p).length
  | [] => rfl
  | a :: r => by
    rw [List.takeWhile_cons]
    split
    · rw [List.length_cons, List.take_succ_cons, ← tw_take p r]
    · rfl
set_option maxRecDepth 20000 in
set_option maxHeartbeats 8000000 in
theorem jnum_x (s : List UInt8) (hs : s.length ≤ 65536) (i : Nat) (hi : i ≤ s.length) (ok : Bool) (g : Nat) (W : PW) (hE : HE W) (hT : HTJ W) (ho : OwnB W g (parC s i ok)) :
    CallsX Tryd.prog 131 ⟨[.pointer (some ⟨g, 0, none⟩)]⟩ [g] W fun v W' => OutV s i ok g (numJ (s.drop i)) v W' := by
  refine methX hmix Tryd.func131 r131 (by kernel_rfl) ho [] rfl ?_
  refine call_m1 rfl rfl rfl rfl k127 (fun g' W1 l1 how => (jtake_x s [45] hs (by decide) i hi ok g' W1 how).mono fun v W2 hv l2 => ?_)
  have hp : ∃ p, i ≤ p ∧ p ≤ s.length ∧ OwnB W2 g' (parC s p ok) ∧ (∃ b, v = .bool b) ∧ signsJ (s.drop i) = (s.drop i).take (p - i) ++ (s.drop p).takeWhile digJ := by
    rcases hv with ⟨e, rfl, hl, hw⟩ | ⟨e, rfl, hw⟩
    · have hl : i + 1 ≤ s.length := hl
      have e : (s.drop i).take 1 = [45] := e
      obtain ⟨c, hx⟩ := at_q (s := s) (i := i) (by omega)
      refine ⟨i + 1, by omega, hl, hw, ⟨_, rfl⟩, ?_⟩
      rw [drop_q hx] at e ⊢
      have e : c = 45 := by simpa using e
      rw [signs_yes (by rw [e]), show i + 1 - i = 1 by omega, e]; (first | done | rfl)
    · refine ⟨i, Nat.le_refl _, hi, hw, ⟨_, rfl⟩, ?_⟩
      rw [signs_no e, Nat.sub_self]; (first | done | rfl)
  clear hv
  obtain ⟨p, hp1, hp2, hw, ⟨b0, rfl⟩, hsig⟩ := hp
  refine ⟨_, hw, ?_⟩
  refine ⟨Nat, fun _ => [], fun j => [[.v (strV s), .v (.int .i64 j), .v (.bool ok)], [.v (.int .i64 0), .v (.bool false), .v (.int .i64 0), .v (strV []), .v nilU, .v nilU]], fun _ => [], fun j _ => p ≤ j ∧ j ≤ s.length ∧ p + ((s.drop p).takeWhile digJ).length = j + ((s.drop j).takeWhile digJ).length, fun j => s.length - j, p,
    all_sl trivial, rfl, ole_refl _, ⟨Nat.le_refl _, hp2, rfl⟩, loopOK (fun _ => trivial) (fun _ => rfl) (fun _ => rfl), ?_⟩
  intro j W3 l3 ⟨h1, h2, h3⟩ fr
  refine ⟨rfl, br_split (fun g1 => ?b1) (fun g1 => ?x1)⟩
  case' b1 =>
    have g1 : (j : Int) < s.length := g1
    obtain ⟨c, hx⟩ := at_q (s := s) (i := j) (by omega)
    have hd : s.drop j = c :: s.drop (j + 1) := drop_q hx
    have hb : byteAt s (j : Int).toNat = c.toNat := byteAt_get hx
    have hb2 := hb
    refine ⟨⟨by omega, g1⟩, ?_⟩
    obtain ⟨y, hy⟩ : ∃ y, byteAt s (j : Int).toNat = y := ⟨_, rfl⟩
    generalize byteAt s (j : Int).toNat = y at hb ⊢
    refine ⟨rfl, br_split (fun g2 => ?b2) (fun g2 => ?x2)⟩
  case' b2 =>
    have g2 : (48 : Int) ≤ y := g2
    refine ⟨⟨by omega, g1⟩, ?_⟩
    obtain ⟨y2, hy2⟩ : ∃ y, byteAt s (j : Int).toNat = y := ⟨_, rfl⟩
    generalize byteAt s (j : Int).toNat = y2 at hb2 ⊢
    refine ⟨rfl, br_split (fun g3 => ?b3) (fun g3 => ?x3)⟩
  case b3 =>
    have g3 : y2 ≤ 57 := g3
    refine ⟨rfl, _, (i64_in ((j : Int) + 1) ⟨by omega, by omega⟩).symm, j + 1, all_sl trivial, rfl, ole_refl _, ⟨by omega, by omega, ?_⟩, by dsimp only; omega⟩
    rw [h3, hd, List.takeWhile_cons, show digJ c = true by unfold digJ; rw [decide_eq_true (by omega), decide_eq_true (by omega)]; (first | done | rfl), if_pos rfl, List.length_cons]; omega
  case' x1 =>
    have g1 : ¬ (j : Int) < s.length := g1
    have E : ((s.drop j).takeWhile digJ).length = 0 := by rw [List.drop_eq_nil_of_le (by omega)]; (first | done | rfl)
  case' x2 =>
    have g2 : ¬ (48 : Int) ≤ y := g2
    have E : ((s.drop j).takeWhile digJ).length = 0 := by rw [hd, List.takeWhile_cons, show digJ c = false by unfold digJ; rw [decide_eq_false (show ¬ 48 ≤ c.toNat by omega)]; (first | done | rfl)]; (first | done | rfl)
  case' x3 =>
    have g3 : ¬ y2 ≤ 57 := g3
    have E : ((s.drop j).takeWhile digJ).length = 0 := by rw [hd, List.takeWhile_cons, show digJ c = false by unfold digJ; rw [decide_eq_false (show ¬ c.toNat ≤ 57 by omega), Bool.and_false]]; (first | done | rfl)
  case x1 | x2 | x3 =>
    rw [E] at h3
    have ht : (s.drop (i : Int).toNat).take ((j : Int).toNat - (i : Int).toNat) = signsJ (s.drop i) := by
      rw [hsig, tw_take, show ((s.drop p).takeWhile digJ).length = j - p by omega]
      show (s.drop i).take (j - i) = _
      rw [show j - i = (p - i) + (j - p) by omega, List.take_add, List.drop_drop, show i + (p - i) = p by omega]
    have hlen : (signsJ (s.drop i)).length = j - i := by
      rw [← ht]
      show ((s.drop i).take (j - i)).length = _
      rw [List.length_take, List.length_drop]; omega
    have hrest : (s.drop i).drop (signsJ (s.drop i)).length = s.drop j := by rw [hlen, List.drop_drop, show i + (j - i) = j by omega]
    have hnum : numJ (s.drop i) = match intJ (signsJ (s.drop i)) with | some v => some (.mk 2 false v [] [] [], s.drop j) | none => none := by unfold numJ; rw [hrest]; (first | done | rfl)
    refine ⟨⟨by omega, by omega, by show (j : Int) ≤ s.length; omega⟩, ?_⟩
    obtain ⟨tok, htok⟩ : ∃ y, signsJ (s.drop i) = y := ⟨_, rfl⟩
    generalize (s.drop (i : Int).toNat).take ((j : Int).toNat - (i : Int).toNat) = tk at ht ⊢
    rw [htok] at ht hlen hnum
    subst ht
    have bad : intJ tk = none → numJ (s.drop i) = none := fun h => by rw [hnum, h]
    refine call_v rfl (fun W' lw => pint_x tk (by omega) W' (hE.mono (l1.trans (l2.trans (l3.trans lw))))) (fun W4 v W5 l4 l5 hv => ?_)
    unfold ParseR at hv
    cases hpi : Lib.parseIntB 64 tk with
    | ok n =>
      rw [hpi] at hv
      have hv : v = .tuple ⟨[.int .i64 n, .nilIface]⟩ := hv
      subst hv
      obtain ⟨r1, r2⟩ := parse_range hpi
      have hint : intJ tk = if Lib.itoa n = tk ∧ -9007199254740992 ≤ n ∧ n ≤ 9007199254740992 then some n else none := by unfold intJ; rw [hpi]
      refine ⟨_, rfl, _, rfl, ?_⟩
      refine raw_nenil_f (by kernel_rfl) rfl rfl ?_
      refine call_v rfl (fun W' lw => fmt_x n r1 r2 W' (hT.mono (l1.trans (l2.trans (l3.trans (l4.trans (l5.trans lw))))))) (fun W6 v W7 l6 l7 hv => ?_)
      subst hv
      apply br_nsplit
      case' h1 => intro q1
      case' h2 =>
        intro q1
        have q1 : Lib.itoa n = tk := q1
        refine ⟨rfl, br_split (fun q2 => ?w1) (fun q2 => ⟨rfl, br_split (fun q3 => ?w2) (fun q3 => ?w3)⟩)⟩
      case w3 =>
        have q2 : ¬ n < -9007199254740992 := q2
        have q3 : ¬ 9007199254740992 < n := q3
        rw [if_pos ⟨q1, by omega, by omega⟩] at hint
        rw [hint] at hnum
        exact ret_m1 rfl rfl rfl rfl fun W' _ hw => ⟨.mk 2 false n [] nilU [] nilU [], j, ok, by omega, h2, JOK.leaf _ _ _ _ _, rfl, hw, out_same hnum⟩
      case' h1 =>
        have q1 : ¬ Lib.itoa n = tk := q1
        rw [if_neg (fun h => q1 h.1)] at hint
      case' w1 =>
        have q2 : n < -9007199254740992 := q2
        rw [if_neg (fun h => by omega)] at hint
      case' w2 =>
        have q3 : 9007199254740992 < n := q3
        rw [if_neg (fun h => by omega)] at hint
      case h1 | w1 | w2 =>
        refine call_m1 rfl rfl rfl rfl k126 (fun g' W' _ how => (jfail_x s j ok g' W' how).mono fun v W9 hw _ => ⟨_, hw, ?_⟩)
        exact ret_m1 rfl rfl rfl rfl fun W' _ hw => ⟨nullV, j, false, by omega, h2, JOK.leaf _ _ _ _ _, rfl, hw, out_no (bad hint)⟩
    | _ =>
      rw [hpi] at hv
      obtain ⟨n, e, q, rfl⟩ : ∃ n e p, v = .tuple ⟨[.int .i64 n, .iface e p]⟩ := hv
      refine ⟨_, rfl, _, rfl, ?_⟩
      refine raw_nenil_t (by kernel_rfl) rfl rfl ?_
      refine call_m1 rfl rfl rfl rfl k126 (fun g' W' _ how => (jfail_x s j ok g' W' how).mono fun v W9 hw _ => ⟨_, hw, ?_⟩)
      exact ret_m1 rfl rfl rfl rfl fun W' _ hw => ⟨nullV, j, false, by omega, h2, JOK.leaf _ _ _ _ _, rfl, hw, out_no (bad (by unfold intJ; rw [hpi]))⟩
end Go.Proofs.YtkhgmmejgikgnaaDoor

/- Layer 6 (json), walked: lists. -/
namespace Go.Proofs.YtkhgmmejgikgnaaDoor
open Go.RowKit

def ValX (d : Nat) : Prop := ∀ (s : List UInt8) (i : Nat) (ok : Bool) (g : Nat) (W : PW), s.length ≤ 65536 → i ≤ s.length → HE W → HTJ W → OwnB W g (parC s i ok) →
  CallsX Tryd.prog 87 ⟨[.pointer (some ⟨g, 0, none⟩), .int .i64 (d : Nat)]⟩ [g] W fun v W' => OutV s i ok g (valueJ d (s.drop i)) v W'
structure LSt where
  j : Nat
  ok : Bool
  l : List JV
  A : Option Addr
  c : Nat
def jlO (A : Option Addr) (c : Nat) (l : List JV) : Own := ⟨.slice A l.length c, 77, 6, l.length, (l.map JV.cells).flatten⟩
theorem jl_snoc (A : Option Addr) (c : Nat) (l : List JV) (x : JV) : (⟨.slice A (l.length + 1) c, 77, 6, l.length + 1, (l.map JV.cells).flatten ++ x.cells⟩ : Own) = jlO A c (l ++ [x]) := by
  unfold jlO
  rw [List.length_append, List.map_append, List.flatten_append]
  simp
theorem ers_len (l : List JV) : (JV.ers l).isEmpty = decide ((l.length : Int) = 0) := by
  rw [ers_map]
  cases l with
  | nil => rfl
  | cons a r => symm; rw [List.map_cons, List.isEmpty_cons, decide_eq_false_iff_not, List.length_cons]; omega
theorem jcell_one {x : JV} (h : ∃ A n c A' n' c' k b i t l ks, x = .mk k b i t (.slice A n c) l (.slice A' n' c') ks) : ∀ u ∈ x.cells, u.oneCell' = true := by
  obtain ⟨A, n, c, A', n', c', k, b, i, t, l, ks, rfl⟩ := h
  intro u hu
  simp only [JV.cells, List.mem_cons, List.not_mem_nil, or_false] at hu
  rcases hu with rfl | rfl | rfl | rfl | rfl | rfl <;> rfl
theorem JOK.form {W : PW} {x : JV} (h : JOK W x) : ∃ k b i t A l c A' ks c', x = .mk k b i t (.slice A (List.length l) c) l (.slice A' (List.length ks) c') ks ∧ l.length ≤ c ∧ c ≤ maxLen ∧ (∀ y ∈ l, JOK W y) := by
  cases h with
  | mk h1 h2 h3 =>
    obtain ⟨A, c, rfl, k1, k2⟩ := h1.form
    obtain ⟨A', c', rfl, _, _⟩ := h2.form
    exact ⟨_, _, _, _, _, _, _, _, _, _, rfl, k1, k2, h3⟩
theorem JOK.cellsOK {W : PW} {x : JV} (h : JOK W x) : ∀ u ∈ x.cells, u.oneCell' = true := by
  obtain ⟨k, b, i, t, A, l, c, A', ks, c', rfl, _⟩ := h.form
  exact jcell_one ⟨_, _, _, _, _, _, _, _, _, _, _, _, rfl⟩
set_option maxRecDepth 20000 in
set_option maxHeartbeats 8000000 in
theorem jlist_x (d : Nat) (hd : d ≤ 100) (hval : ValX d) (s : List UInt8) (hs : s.length ≤ 65536) (i : Nat) (hi : i ≤ s.length) (ok : Bool) (g : Nat) (W : PW) (hE : HE W) (hT : HTJ W) (ho : OwnB W g (parC s i ok)) :
    CallsX Tryd.prog 129 ⟨[.pointer (some ⟨g, 0, none⟩), .int .i64 ((d + 1 : Nat) : Int)]⟩ [g] W fun v W' => OutV s i ok g (listJ (valueJ d) ((s.drop i).length + 1) [] (s.drop i)) v W' := by
  have hmax : (100000000 : Nat) ≤ maxLen := by decide
  obtain ⟨F, hF⟩ : ∃ F, listJ (valueJ d) ((s.drop i).length + 1) [] (s.drop i) = F := ⟨_, rfl⟩
  rw [hF]
  obtain ⟨z, hz⟩ : ∃ z : Int, z = ((d + 1 : Nat) : Int) := ⟨_, rfl⟩
  rw [← hz]
  refine methNX hmix Tryd.func129 r129 (by kernel_rfl) ho [nilO 77 6] rfl [.int .i64 z] rfl ?_
  refine ⟨LSt, fun _ => [], fun t => [[.v (strV s), .v (.int .i64 t.j), .v (.bool t.ok)], [.v (.int .i64 0), .v (.bool false), .v (.int .i64 0), .v (strV []), .v nilU, .v nilU], [.v (.int .i64 4), .v (.bool false), .v (.int .i64 0), .v (strV []), .v (.slice t.A t.l.length t.c), .v nilU]],
    fun t => [jlO t.A t.c t.l],
    fun t W' => i ≤ t.j ∧ t.j ≤ s.length ∧ t.l.length ≤ t.j - i + (bif t.ok then 0 else 1) ∧ (∀ x ∈ t.l, JOK W' x) ∧ (t.ok = true → ok = true ∧ ∃ f, (s.drop t.j).length < f ∧ F = listJ (valueJ d) f (JV.ers t.l) (s.drop t.j)) ∧ (t.ok = false → ok = true → F = none),
    fun t => 2 * (s.length - t.j) + (bif t.ok then 1 else 0), ⟨i, ok, [], none, 0⟩,
    all_sl trivial, rfl, ole_refl _, ⟨Nat.le_refl _, hi, Nat.zero_le _, (fun x h => by cases h), fun h => ⟨h, _, Nat.lt_succ_self _, by rw [← hF, JV.ers]⟩, fun h1 h2 => ?_⟩, loopOK (fun _ => trivial) (fun _ => rfl) (fun _ => rfl), ?_⟩
  · have h1 : ok = false := h1
    rw [h1] at h2; cases h2
  rintro ⟨j, okb, l, A, c⟩ W1 l1 ⟨h1, h2, h3, h4, h5, h6⟩ fr
  dsimp only at h1 h2 h3 h4 h5 h6
  have hll : l.length ≤ 65537 := by
    have : (bif okb then 0 else 1) ≤ 1 := by cases okb <;> decide
    omega
  refine ⟨rfl, ?_⟩
  refine call_m1 rfl rfl rfl rfl k168 (fun g' W2 l2 how => (jend_x s hs 93 (decide ((l.length : Int) = 0)) j h2 okb g' W2 how).mono fun v W3 hv l3 => ?_)
  obtain ⟨j2, b, ok2, k1, k2, rfl, hw, hv⟩ := hv
  rw [← ers_len] at hv
  refine ⟨_, hw, ?_⟩
  rcases hv with ⟨rfl, rfl, hno⟩ | ⟨rfl, rfl, rfl, he, hr, hlt⟩ | ⟨rfl, rfl, rfl, he⟩
  · refine RetVC.freeze (fun _ hb => hb) (i := 0) rfl fun Wm lm hs0 => ?_
    refine ret_m1 rfl rfl rfl rfl fun W' l' hw => ⟨.mk 4 false 0 [] (.slice A l.length c) l nilU [], j2, false, by omega, k2, ?_, rfl, hw, ?_⟩
    · exact .mk (SlRead.mono hs0 l') (RP.nil _ _) fun x hx => (h4 x hx).mono ((l2.trans (l3.trans lm)).trans l')
    · refine ⟨fun e => (by cases e), fun _ hok => ?_⟩
      cases okb with
      | false => exact h6 rfl hok
      | true =>
        obtain ⟨_, f, hf1, hf2⟩ := h5 rfl
        cases f with
        | zero => omega
        | succ f => rw [hf2]; unfold listJ; rw [hno rfl]
  · obtain ⟨hok, f, hf1, hf2⟩ := h5 rfl
    refine RetVC.freeze (fun _ hb => hb) (i := 0) rfl fun Wm lm hs0 => ?_
    refine ret_m1 rfl rfl rfl rfl fun W' l' hw => ⟨.mk 4 false 0 [] (.slice A l.length c) l nilU [], j2, true, by omega, k2, ?_, rfl, hw, ?_⟩
    · exact .mk (SlRead.mono hs0 l') (RP.nil _ _) fun x hx => (h4 x hx).mono ((l2.trans (l3.trans lm)).trans l')
    · refine ⟨fun _ => ⟨hok, ?_⟩, fun e => (by cases e)⟩
      cases f with
      | zero => omega
      | succ f => rw [hf2]; unfold listJ; rw [he, hr]; (first | done | rfl)
  · obtain ⟨hok, f, hf1, hf2⟩ := h5 rfl
    have hi1 : ((d : Nat) : Int) = IntKind.i64.wrap (z - 1) := by rw [i64_in _ ⟨by omega, by omega⟩]; omega
    refine ⟨rfl, ((d : Nat) : Int), hi1, ?_⟩
    refine call_m1 rfl rfl rfl rfl k87 (fun g' W4 l4 how => (hval s j2 true g' W4 hs k2 (hE.mono (l1.trans (l2.trans (l3.trans l4)))) (hT.mono (l1.trans (l2.trans (l3.trans l4)))) how).mono fun v W5 hv l5 => ?_)
    obtain ⟨x, j3, ok3, m1, m2, hx, rfl, hw, ho1, ho2⟩ := hv
    refine ⟨_, hw, ?_⟩
    have hone := hx.cellsOK
    have hgt : ok3 = true → j2 < j3 := fun e => by
      obtain ⟨_, e2⟩ := ho1 e
      have := valueJ_len d e2
      rw [List.length_drop, List.length_drop] at this; omega
    have hsn := jl_snoc (l := l) (x := x)
    obtain ⟨xk, xb, xi, xt, xA, xl, xc, xA', xks, xc', rfl, _⟩ := hx.form
    refine ⟨rfl, .inl fun bd Wd ld hrd => ⟨0, _, (JV.mk xk xb xi xt (.slice xA xl.length xc) xl (.slice xA' xks.length xc') xks).cells, rfl, rfl, rfl, rfl, rfl, hone, fun _ => ⟨_, rfl, hrd.o⟩, by show l.length + 1 ≤ maxLen; omega, by show (l.length + 1) * 88 ≤ 140737488355328; omega, rfl, @fun Ae ce _ => ?_⟩⟩
    have hl3 := l2.trans (l3.trans (l4.trans (l5.trans ld)))
    refine ⟨⟨j3, ok3, l ++ [.mk xk xb xi xt (.slice xA xl.length xc) xl (.slice xA' xks.length xc') xks], Ae, ce⟩, all_sl trivial, ?_, ole_eq ?_, ⟨?_, m2, ?_, ?_, ?_, ?_⟩, ?_⟩
    · dsimp only; rw [List.length_append]; (first | done | rfl)
    · exact congrArg (fun o => [o]) (hsn Ae ce)
    · dsimp only; omega
    · dsimp only
      rw [List.length_append]
      show l.length + 1 ≤ _
      cases ok3 with
      | true => have := hgt rfl; show l.length + 1 ≤ j3 - i + 0; have h3 : l.length ≤ j - i + 0 := h3; omega
      | false => show l.length + 1 ≤ j3 - i + 1; have h3 : l.length ≤ j - i + 0 := h3; omega
    · intro y hy
      rcases List.mem_append.1 hy with hy | hy
      · exact (h4 y hy).mono hl3
      · rw [List.mem_singleton.1 hy]; exact hx.mono ld
    · intro e
      obtain ⟨_, e2⟩ := ho1 e
      have := hgt e
      cases f with
      | zero => omega
      | succ f =>
        refine ⟨hok, f, ?_, ?_⟩
        · dsimp only
          rw [List.length_drop] at hf1 ⊢; omega
        · rw [hf2]
          conv => lhs; unfold listJ
          rw [he]
          dsimp only
          rw [e2, ers_snoc]
    · intro e _
      cases f with
      | zero => omega
      | succ f =>
        rw [hf2]; unfold listJ; rw [he]
        dsimp only
        rw [ho2 e rfl]
    · dsimp only
      cases ok3 with
      | true => have := hgt rfl; show 2 * (s.length - j3) + 1 < 2 * (s.length - j) + 1; omega
      | false => show 2 * (s.length - j3) + 0 < 2 * (s.length - j) + 1; omega
end Go.Proofs.YtkhgmmejgikgnaaDoor

/- Layer 6 (json), walked: maps. -/
namespace Go.Proofs.YtkhgmmejgikgnaaDoor
open Go.RowKit

def encL (l : List UInt8) : Value := strV l
theorem eql_enc : EqlAt Tryd.prog 9 encL (fun x y => decide (x = y)) :=
  ⟨fun x y w => by
    show (binOp .eql 9 (.string ⟨⟨x⟩⟩) (.string ⟨⟨y⟩⟩)).run Tryd.prog w = _
    simp only [binOp, Op.stringOp, bytes_list, beq_dec]; (first | done | rfl),
   fun op a b x y w => by
    show (eqGuard op 9 a b (.string ⟨⟨x⟩⟩) (.string ⟨⟨y⟩⟩)).run Tryd.prog w = _
    rw [eqGuard_at_string]; (first | done | rfl)⟩
theorem flat_sC (keys : List (List UInt8)) : (keys.map sC).flatten = keys.map encL := by
  induction keys with
  | nil => rfl
  | cons a r ih => rw [List.map_cons, List.flatten_cons, ih]; (first | done | rfl)
theorem spot_none {w : World} {a : Addr} {v : Value} (h : w.cell? a = some v) : ∃ b o, a = ⟨b, o, none⟩ := by
  obtain ⟨b, o, sp⟩ := a
  cases sp with
  | none => exact ⟨b, o, rfl⟩
  | some x =>
    unfold World.cell? at h
    dsimp only at h
    split at h <;> simp at h
theorem contains_x (keys : List (List UInt8)) (k : List UInt8) (hl : keys.length ≤ 1000000) (u : Value) (W : PW) (h : RP sC W u keys) : CallsX Tryd.prog 169 ⟨[u, strV k]⟩ [] W fun v _ => v = .bool (decide (k ∈ keys)) := by
  have hcall : Callable Tryd.prog 169 := ⟨_, Tryd.func169, by kernel_rfl, by kernel_rfl⟩
  obtain ⟨A, c, rfl, hc1, hc2, h3⟩ := h
  cases hk : keys with
  | nil =>
    have := Tryd.slices_Contains_empty (α := List UInt8) A c (strV k) W.w
    exact CallsX.of_same hcall (this.mono fun e w' ⟨he, hw⟩ => ⟨he, hw⟩)
  | cons k0 kr =>
    rw [← hk]
    obtain ⟨a, rfl, hr⟩ := h3 (by rw [hk]; exact Nat.succ_pos _)
    rw [flat_sC] at hr
    obtain ⟨b, o, rfl⟩ : ∃ b o, a = ⟨b, o, none⟩ := by
      have h0 := (hr 0 (encL k0) (by rw [hk]; (first | done | rfl))).2
      obtain ⟨b, o, e⟩ := spot_none h0
      unfold Addr.add at e
      obtain ⟨b', o', sp⟩ := a
      cases sp with
      | none => exact ⟨b', o', rfl⟩
      | some x => simp at e
    have := Tryd.slices_Contains encL (fun x y => decide (x = y)) eql_enc b o keys.length c keys k W.w (Nat.le_refl _) (by omega) (fun j hj => by
      have h0 := (hr j (encL keys[j]) (by rw [List.getElem?_map, List.getElem?_eq_getElem hj]; (first | done | rfl))).2
      rw [add_lit] at h0
      rw [h0, getElem!_pos keys j hj])
    rw [List.take_length] at this
    have e : (keys.any fun y => decide (k = y)) = decide (k ∈ keys) := by
      rw [Bool.eq_iff_iff, List.any_eq_true, decide_eq_true_eq]
      exact ⟨fun ⟨x, h1, h2⟩ => by rw [of_decide_eq_true h2]; exact h1, fun h => ⟨k, h, decide_eq_true rfl⟩⟩
    rw [e] at this
    exact CallsX.of_same hcall (this.mono fun e w' ⟨he, hw⟩ => ⟨he, hw⟩)
structure MSt where
  j : Nat
  ok : Bool
  l : List JV
  A : Option Addr
  c : Nat
  ks : List (List UInt8)
  A2 : Option Addr
  c2 : Nat
theorem str_snoc (A : Option Addr) (c : Nat) (l : List (List UInt8)) (x : List UInt8) : (⟨.slice A (l.length + 1) c, 9, 1, l.length + 1, (l.map sC).flatten ++ [strV x]⟩ : Own) = strO (.slice A (l ++ [x]).length c) (l ++ [x]) := by
  unfold strO
  rw [List.length_append, List.map_append, List.flatten_append]
  (first | done | rfl)
theorem two_eq {a a' b b' : Own} (h1 : a = a') (h2 : b = b') : [a, b] = [a', b'] := by rw [h1, h2]
theorem one_str (x : List UInt8) : ∀ u ∈ [strV x], u.oneCell' = true := fun u hu => by rw [List.mem_singleton.1 hu]; (first | done | rfl)
set_option maxRecDepth 20000 in
set_option maxHeartbeats 16000000 in
theorem jtable_x (d : Nat) (hd : d ≤ 100) (hval : ValX d) (s : List UInt8) (hs : s.length ≤ 65536) (i : Nat) (hi : i ≤ s.length) (ok : Bool) (g : Nat) (W : PW) (hE : HE W) (hT : HTJ W) (ho : OwnB W g (parC s i ok)) :
    CallsX Tryd.prog 130 ⟨[.pointer (some ⟨g, 0, none⟩), .int .i64 ((d + 1 : Nat) : Int)]⟩ [g] W fun v W' => OutV s i ok g (tableJ (valueJ d) ((s.drop i).length + 1) [] [] (s.drop i)) v W' := by
  have hmax : (100000000 : Nat) ≤ maxLen := by decide
  obtain ⟨F, hF⟩ : ∃ F, tableJ (valueJ d) ((s.drop i).length + 1) [] [] (s.drop i) = F := ⟨_, rfl⟩
  rw [hF]
  obtain ⟨z, hz⟩ : ∃ z : Int, z = ((d + 1 : Nat) : Int) := ⟨_, rfl⟩
  rw [← hz]
  refine methNX hmix Tryd.func130 r130 (by kernel_rfl) ho [nilO 77 6, nilO 9 1] rfl [.int .i64 z] rfl ?_
  refine ⟨MSt, fun _ => [], fun t => [[.v (strV s), .v (.int .i64 t.j), .v (.bool t.ok)], [.v (.int .i64 0), .v (.bool false), .v (.int .i64 0), .v (strV []), .v nilU, .v nilU], [.v (.int .i64 5), .v (.bool false), .v (.int .i64 0), .v (strV []), .v (.slice t.A t.l.length t.c), .v (.slice t.A2 t.ks.length t.c2)]],
    fun t => [jlO t.A t.c t.l, strO (.slice t.A2 t.ks.length t.c2) t.ks],
    fun t W' => i ≤ t.j ∧ t.j ≤ s.length ∧ t.l.length ≤ t.j - i + (bif t.ok then 0 else 1) ∧ t.ks.length = t.l.length ∧ (∀ x ∈ t.l, JOK W' x) ∧ (t.ok = true → ok = true ∧ ∃ f, (s.drop t.j).length < f ∧ F = tableJ (valueJ d) f t.ks (JV.ers t.l) (s.drop t.j)) ∧ (t.ok = false → ok = true → F = none),
    fun t => 2 * (s.length - t.j) + (bif t.ok then 1 else 0), ⟨i, ok, [], none, 0, [], none, 0⟩,
    all_sl trivial, rfl, ole_refl _, ⟨Nat.le_refl _, hi, Nat.zero_le _, rfl, (fun x h => by cases h), fun h => ⟨h, _, Nat.lt_succ_self _, by rw [← hF, JV.ers]⟩, fun h1 h2 => ?_⟩, loopOK (fun _ => trivial) (fun _ => rfl) (fun _ => rfl), ?_⟩
  · have h1 : ok = false := h1
    rw [h1] at h2; cases h2
  rintro ⟨j, okb, l, A, c, ks, A2, c2⟩ W1 l1 ⟨h1, h2, h3, hkl, h4, h5, h6⟩ fr
  dsimp only at h1 h2 h3 hkl h4 h5 h6
  have hll : l.length ≤ 65537 := by
    have : (bif okb then 0 else 1) ≤ 1 := by cases okb <;> decide
    omega
  refine ⟨rfl, ?_⟩
  refine call_m1 rfl rfl rfl rfl k168 (fun g' W2 l2 how => (jend_x s hs 125 (decide ((l.length : Int) = 0)) j h2 okb g' W2 how).mono fun v W3 hv l3 => ?_)
  obtain ⟨j2, b, ok2, k1, k2, rfl, hw, hv⟩ := hv
  rw [← ers_len] at hv
  refine ⟨_, hw, ?_⟩
  rcases hv with ⟨rfl, rfl, hno⟩ | ⟨rfl, rfl, rfl, he, hr, hlt⟩ | ⟨rfl, rfl, rfl, he⟩
  · refine RetVC.freeze (fun _ hb => hb) (i := 0) rfl fun Wm lm hs0 => ?_
    refine RetVC.freeze (fun _ hb => hb) (i := 0) rfl fun Wn ln hs1 => ?_
    refine ret_m1 rfl rfl rfl rfl fun W' l' hw => ⟨.mk 5 false 0 [] (.slice A l.length c) l (.slice A2 ks.length c2) ks, j2, false, by omega, k2, ?_, rfl, hw, ?_⟩
    · exact .mk (SlRead.mono hs0 (ln.trans l')) (SlRead.mono hs1 l') fun x hx => (h4 x hx).mono ((l2.trans (l3.trans (lm.trans ln))).trans l')
    · refine ⟨fun e => (by cases e), fun _ hok => ?_⟩
      cases okb with
      | false => exact h6 rfl hok
      | true =>
        obtain ⟨_, f, hf1, hf2⟩ := h5 rfl
        cases f with
        | zero => omega
        | succ f => rw [hf2]; unfold tableJ; rw [hno rfl]
  · obtain ⟨hok, f, hf1, hf2⟩ := h5 rfl
    refine RetVC.freeze (fun _ hb => hb) (i := 0) rfl fun Wm lm hs0 => ?_
    refine RetVC.freeze (fun _ hb => hb) (i := 0) rfl fun Wn ln hs1 => ?_
    refine ret_m1 rfl rfl rfl rfl fun W' l' hw => ⟨.mk 5 false 0 [] (.slice A l.length c) l (.slice A2 ks.length c2) ks, j2, true, by omega, k2, ?_, rfl, hw, ?_⟩
    · exact .mk (SlRead.mono hs0 (ln.trans l')) (SlRead.mono hs1 l') fun x hx => (h4 x hx).mono ((l2.trans (l3.trans (lm.trans ln))).trans l')
    · refine ⟨fun _ => ⟨hok, ?_⟩, fun e => (by cases e)⟩
      cases f with
      | zero => omega
      | succ f => rw [hf2]; unfold tableJ; rw [he, hr]; (first | done | rfl)
  · obtain ⟨hok, f, hf1, hf2⟩ := h5 rfl
    obtain ⟨f, rfl⟩ : ∃ f', f = f' + 1 := ⟨f - 1, by omega⟩
    have hstep : F = match keyJ ks (s.drop j2) with
      | none => none
      | some (k, r') => match valueJ d r' with | none => none | some (x, r'') => tableJ (valueJ d) f (ks ++ [k]) (JV.ers l ++ [x]) r'' := by
      rw [hf2]; conv => lhs; unfold tableJ
      rw [he]; (first | done | rfl)
    refine call_m1 rfl rfl rfl rfl k88 (fun g' W4 l4 how => (jblanks_x s hs j2 k2 true g' W4 how).mono fun v W5 hv l5 => ?_)
    obtain ⟨j3, a1, a2, a3, hw⟩ := hv
    refine ⟨_, hw, ?_⟩
    refine call_m1 rfl rfl rfl rfl k128 (fun g' W6 l6 how => (jtext_x s hs j3 a2 true g' W6 how).mono fun v W7 hv l7 => ?_)
    obtain ⟨k, j4, ok4, b1, b2, b3, rfl, hw, ht1, ht2⟩ := hv
    refine ⟨_, hw, ?_⟩
    refine call_m1 rfl rfl rfl rfl k88 (fun g' W8 l8 how => (jblanks_x s hs j4 b2 ok4 g' W8 how).mono fun v W9 hv l9 => ?_)
    obtain ⟨j5, c1', c2', c3', hw⟩ := hv
    refine ⟨_, hw, ?_⟩
    rw [a3] at ht1 ht2
    have hkey : (ok4 = false ∧ keyJ ks (s.drop j2) = none ∨ ok4 = true ∧ textJ (skipJ (s.drop j2)) = some (k, s.drop j4)) := by
      cases ok4 with
      | true => exact .inr ⟨rfl, (ht1 rfl).2⟩
      | false => exact .inl ⟨rfl, by unfold keyJ; rw [ht2 rfl rfl]⟩
    refine call_m1 rfl rfl rfl rfl k127 (fun g' Wa la how => (jtake_x s [58] hs (by decide) j5 c2' ok4 g' Wa how).mono fun v Wb hv lb => ?_)
    rw [c3', show [(58 : UInt8)].length = 1 from rfl, take_one] at hv
    rcases hv with ⟨e, rfl, hl, hw⟩ | ⟨e, rfl, hw⟩
    rotate_left
    · have hkn : keyJ ks (s.drop j2) = none := by
        rcases hkey with ⟨_, h⟩ | ⟨_, h⟩
        · exact h
        · unfold keyJ; rw [h]; dsimp only; rw [if_neg (fun q => e q.1)]
      rw [hkn] at hstep
      have hstep : F = none := hstep
      refine ⟨_, hw, ?_⟩
      refine call_m1 rfl rfl rfl rfl k126 (fun g' W' _ how => (jfail_x s j5 ok4 g' W' how).mono fun v W9 hw _ => ⟨_, hw, ?_⟩)
      exact ret_m1 rfl rfl rfl rfl fun W' _ hw => ⟨nullV, j5, false, by omega, c2', JOK.leaf _ _ _ _ _, rfl, hw, out_no hstep⟩
    have hl : j5 + 1 ≤ s.length := hl
    refine ⟨_, hw, ?_⟩
    refine call_roO (fun v => v = .bool (decide (k ∈ ks))) rfl ⟨_, Tryd.func169, by kernel_rfl, by kernel_rfl⟩ (fun W' l' hO => contains_x ks k (by omega) _ W' (hO 1 _ rfl)) (fun v Wc lc hv => ?_)
    subst hv
    refine br_split (fun hm => ?_) (fun hm => ?_)
    · have hkn : keyJ ks (s.drop j2) = none := by
        rcases hkey with ⟨_, h⟩ | ⟨_, h⟩
        · exact h
        · unfold keyJ; rw [h]; dsimp only; rw [if_neg (fun q => q.2 hm)]
      rw [hkn] at hstep
      have hstep : F = none := hstep
      refine call_m1 rfl rfl rfl rfl k126 (fun g' W' _ how => (jfail_x s (j5 + 1) ok4 g' W' how).mono fun v W9 hw _ => ⟨_, hw, ?_⟩)
      exact ret_m1 rfl rfl rfl rfl fun W' _ hw => ⟨nullV, j5 + 1, false, by omega, hl, JOK.leaf _ _ _ _ _, rfl, hw, out_no hstep⟩
    have hkey2 : ok4 = false ∧ keyJ ks (s.drop j2) = none ∨ ok4 = true ∧ keyJ ks (s.drop j2) = some (k, s.drop (j5 + 1)) := by
      rcases hkey with h | ⟨h0, h⟩
      · exact .inl h
      · refine .inr ⟨h0, ?_⟩
        unfold keyJ; rw [h]; dsimp only; rw [if_pos ⟨e, hm⟩, ← c3', List.drop_drop]
    clear hkey
    refine ⟨rfl, .inl fun bk Wk lk hrk => ⟨1, _, [strV k], rfl, rfl, rfl, rfl, rfl, one_str k, fun _ => ⟨_, rfl, hrk.o⟩, by show ks.length + 1 ≤ maxLen; omega, by show (ks.length + 1) * 16 ≤ 140737488355328; omega, rfl, @fun Ak ck _ => ?_⟩⟩
    have hi1 : ((d : Nat) : Int) = IntKind.i64.wrap (z - 1) := by rw [i64_in _ ⟨by omega, by omega⟩]; omega
    refine ⟨rfl, ((d : Nat) : Int), hi1, ?_⟩
    have lA := l1.trans (l2.trans (l3.trans (l4.trans (l5.trans (l6.trans (l7.trans (l8.trans (l9.trans (la.trans (lb.trans (lc.trans lk)))))))))))
    have lB := l2.trans (l3.trans (l4.trans (l5.trans (l6.trans (l7.trans (l8.trans (l9.trans (la.trans (lb.trans (lc.trans lk))))))))))
    refine call_m1 rfl rfl rfl rfl k87 (fun g' Wv lv how => (hval s (j5 + 1) ok4 g' Wv hs hl (hE.mono (lA.trans lv)) (hT.mono (lA.trans lv)) how).mono fun v Wx hv lx => ?_)
    obtain ⟨x, j7, ok7, m1, m2, hx, rfl, hw, ho1, ho2⟩ := hv
    refine ⟨_, hw, ?_⟩
    have hone := hx.cellsOK
    have hgt : ok7 = true → j5 + 1 < j7 := fun e => by
      obtain ⟨_, e2⟩ := ho1 e
      have := valueJ_len d e2
      rw [List.length_drop, List.length_drop] at this; omega
    have hsn := jl_snoc (l := l) (x := x)
    have hsk := str_snoc (l := ks) (x := k)
    obtain ⟨xk, xb, xi, xt, xA, xl, xc, xA', xks, xc', rfl, _⟩ := hx.form
    refine ⟨rfl, .inl fun bd Wd ld hrd => ⟨0, _, (JV.mk xk xb xi xt (.slice xA xl.length xc) xl (.slice xA' xks.length xc') xks).cells, rfl, rfl, rfl, rfl, rfl, hone, fun _ => ⟨_, rfl, hrd.o⟩, by show l.length + 1 ≤ maxLen; omega, by show (l.length + 1) * 88 ≤ 140737488355328; omega, rfl, @fun Ae ce _ => ?_⟩⟩
    have hl3 := lB.trans (lv.trans (lx.trans ld))
    refine ⟨⟨j7, ok7, l ++ [.mk xk xb xi xt (.slice xA xl.length xc) xl (.slice xA' xks.length xc') xks], Ae, ce, ks ++ [k], Ak, ck⟩, all_sl trivial, ?_, ole_eq ?_, ⟨?_, m2, ?_, ?_, ?_, ?_, ?_⟩, ?_⟩
    · dsimp only; rw [List.length_append, List.length_append]; (first | done | rfl)
    · exact two_eq (hsn Ae ce) (hsk Ak ck)
    · dsimp only; omega
    · dsimp only
      rw [List.length_append]
      show l.length + 1 ≤ _
      cases ok7 with
      | true => have := hgt rfl; show l.length + 1 ≤ j7 - i + 0; have h3 : l.length ≤ j - i + 0 := h3; omega
      | false => show l.length + 1 ≤ j7 - i + 1; have h3 : l.length ≤ j - i + 0 := h3; omega
    · dsimp only; rw [List.length_append, List.length_append, hkl]; (first | done | rfl)
    · intro y hy
      rcases List.mem_append.1 hy with hy | hy
      · exact (h4 y hy).mono hl3
      · rw [List.mem_singleton.1 hy]; exact hx.mono ld
    · intro e
      obtain ⟨e0, e2⟩ := ho1 e
      have := hgt e
      refine ⟨hok, f, ?_, ?_⟩
      · dsimp only
        rw [List.length_drop] at hf1 ⊢; omega
      · rcases hkey2 with ⟨q0, q⟩ | ⟨_, q⟩
        · rw [e0] at q0; cases q0
        · rw [hstep, q]
          dsimp only
          rw [e2, ers_snoc]
    · intro e _
      rcases hkey2 with ⟨_, q⟩ | ⟨q0, q⟩
      · rw [hstep, q]
      · rw [hstep, q]
        dsimp only
        rw [ho2 e q0]
    · dsimp only
      cases ok7 with
      | true => have := hgt rfl; show 2 * (s.length - j7) + 1 < 2 * (s.length - j) + 1; omega
      | false => show 2 * (s.length - j7) + 0 < 2 * (s.length - j) + 1; omega
end Go.Proofs.YtkhgmmejgikgnaaDoor

/- Layer 6 (json), walked: values; Parse. -/
namespace Go.Proofs.YtkhgmmejgikgnaaDoor
open Go.RowKit

theorem out_cast {s : List UInt8} {i i' : Nat} {ok : Bool} {g : Nat} {spec spec' : Option (JT × List UInt8)} {v : Value} {W : PW} (h : OutV s i ok g spec v W) (hi : i' ≤ i) (he : spec = spec') : OutV s i' ok g spec' v W := by
  obtain ⟨x, j, ok', h1, h2, h3⟩ := h
  subst he
  exact ⟨x, j, ok', by omega, h2, h3⟩
set_option maxRecDepth 20000 in
set_option maxHeartbeats 8000000 in
theorem jvalue_x : ∀ d : Nat, d ≤ 100 → ValX d
  | 0, _ => fun s i ok g W hs hi hE hT ho => by
    refine methX hmix Tryd.func87 r87 (by kernel_rfl) ho [.int .i64 ((0 : Nat) : Int)] rfl ?_
    refine call_m1 rfl rfl rfl rfl k88 (fun g' W1 l1 how => (jblanks_x s hs i hi ok g' W1 how).mono fun v W2 hv l2 => ?_)
    obtain ⟨j, h1, h2, h3, hw⟩ := hv
    refine ⟨_, hw, ?_⟩
    refine ⟨rfl, ?_⟩
    refine call_m1 rfl rfl rfl rfl k126 (fun g' W' _ how => (jfail_x s j ok g' W' how).mono fun v W9 hw _ => ⟨_, hw, ?_⟩)
    exact ret_m1 rfl rfl rfl rfl fun W' _ hw => ⟨nullV, j, false, h1, h2, JOK.leaf _ _ _ _ _, rfl, hw, out_no rfl⟩
  | d + 1, hd => fun s i ok g W hs hi hE hT ho => by
    have hval := jvalue_x d (by omega)
    obtain ⟨z, hz⟩ : ∃ z : Int, z = ((d + 1 : Nat) : Int) := ⟨_, rfl⟩
    rw [← hz]
    refine methX hmix Tryd.func87 r87 (by kernel_rfl) ho [.int .i64 z] rfl ?_
    refine call_m1 rfl rfl rfl rfl k88 (fun g' W1 l1 how => (jblanks_x s hs i hi ok g' W1 how).mono fun v W2 hv l2 => ?_)
    obtain ⟨j, h1, h2, h3, hw⟩ := hv
    refine ⟨_, hw, ?_⟩
    have hspec : valueJ (d + 1) (s.drop i) = valueB (valueJ d) (s.drop j) := by rw [h3]; (first | done | rfl)
    rw [hspec]
    clear hspec h3
    have l3 := l1.trans l2
    refine ⟨rfl, br_no (p := z = 0) (by omega) ⟨rfl, br_split (fun g1 => ?_) (fun g1 => ?_)⟩⟩
    · have g1 : (j : Int) = (s.length : Int) := g1
      refine call_m1 rfl rfl rfl rfl k126 (fun g' W' _ how => (jfail_x s j ok g' W' how).mono fun v W9 hw _ => ⟨_, hw, ?_⟩)
      exact ret_m1 rfl rfl rfl rfl fun W' _ hw => ⟨nullV, j, false, h1, h2, JOK.leaf _ _ _ _ _, rfl, hw, out_no (by rw [List.drop_eq_nil_of_le (by omega)]; (first | done | rfl))⟩
    have g1 : ¬ (j : Int) = (s.length : Int) := g1
    have hjl : j < s.length := by omega
    obtain ⟨c, hx⟩ := at_q (s := s) (i := j) hjl
    have hb : byteAt s (j : Int).toNat = c.toNat := byteAt_get hx
    have hdr : s.drop j = c :: s.drop (j + 1) := drop_q hx
    have hB : valueB (valueJ d) (s.drop j) = if (s.drop j).take 4 = nullS' then some (nullT, (s.drop j).drop 4)
        else if (s.drop j).take 4 = trueS' then some (.mk 1 true 0 [] [] [], (s.drop j).drop 4)
        else if (s.drop j).take 5 = falseS' then some (.mk 1 false 0 [] [] [], (s.drop j).drop 5)
        else if c = 34 then match textJ (s.drop j) with | some (t, r') => some (.mk 3 false 0 t [] [], r') | none => none
        else if c = 91 then listJ (valueJ d) ((s.drop (j + 1)).length + 1) [] (s.drop (j + 1))
        else if c = 123 then tableJ (valueJ d) ((s.drop (j + 1)).length + 1) [] [] (s.drop (j + 1))
        else numJ (s.drop j) := by
      conv => lhs; rw [hdr]
      conv => rhs; rw [hdr]
      rfl
    refine ⟨⟨by omega, by show (j : Int) < s.length; omega⟩, ?_⟩
    obtain ⟨y, hy⟩ : ∃ y, byteAt s (j : Int).toNat = y := ⟨_, rfl⟩
    generalize byteAt s (j : Int).toNat = y at hb ⊢
    refine call_m1 rfl rfl rfl rfl k127 (fun g' Wa la how => (jtake_x s nullS' hs (by decide) j h2 ok g' Wa how).mono fun v Wb hv lb => ?_)
    rw [show nullS'.length = 4 from rfl] at hv
    rcases hv with ⟨e, rfl, hl, hw⟩ | ⟨e, rfl, hw⟩
    · rw [if_pos e, List.drop_drop] at hB
      refine ⟨_, hw, ?_⟩
      exact ret_m1 rfl rfl rfl rfl fun W' _ hw => ⟨nullV, j + 4, ok, by omega, hl, JOK.leaf _ _ _ _ _, rfl, hw, out_same hB⟩
    rw [if_neg e] at hB
    refine ⟨_, hw, ?_⟩
    refine call_m1 rfl rfl rfl rfl k127 (fun g' Wc lc how => (jtake_x s trueS' hs (by decide) j h2 ok g' Wc how).mono fun v Wd hv ld => ?_)
    rw [show trueS'.length = 4 from rfl] at hv
    rcases hv with ⟨e, rfl, hl, hw⟩ | ⟨e, rfl, hw⟩
    · rw [if_pos e, List.drop_drop] at hB
      refine ⟨_, hw, ?_⟩
      exact ret_m1 rfl rfl rfl rfl fun W' _ hw => ⟨.mk 1 true 0 [] nilU [] nilU [], j + 4, ok, by omega, hl, JOK.leaf _ _ _ _ _, rfl, hw, out_same hB⟩
    rw [if_neg e] at hB
    refine ⟨_, hw, ?_⟩
    refine call_m1 rfl rfl rfl rfl k127 (fun g' We le how => (jtake_x s falseS' hs (by decide) j h2 ok g' We how).mono fun v Wf hv lf => ?_)
    rw [show falseS'.length = 5 from rfl] at hv
    rcases hv with ⟨e, rfl, hl, hw⟩ | ⟨e, rfl, hw⟩
    · rw [if_pos e, List.drop_drop] at hB
      refine ⟨_, hw, ?_⟩
      exact ret_m1 rfl rfl rfl rfl fun W' _ hw => ⟨.mk 1 false 0 [] nilU [] nilU [], j + 5, ok, by omega, hl, JOK.leaf _ _ _ _ _, rfl, hw, out_same hB⟩
    rw [if_neg e] at hB
    refine ⟨_, hw, ?_⟩
    have l4 := l3.trans (la.trans (lb.trans (lc.trans (ld.trans (le.trans lf)))))
    refine ⟨rfl, br_split (fun g2 => ?_) (fun g2 => ?_)⟩
    · have g2 : y = 34 := g2
      have hc : c = 34 := UInt8.toNat_inj.1 (by show c.toNat = 34; omega)
      rw [if_pos hc] at hB
      refine call_m1 rfl rfl rfl rfl k128 (fun g' Wg lg how => (jtext_x s hs j h2 ok g' Wg how).mono fun v Wh hv lh => ?_)
      obtain ⟨t, j2, ok2, k1, k2, _, rfl, hw, ho1, ho2⟩ := hv
      refine ⟨_, hw, ?_⟩
      refine ret_m1 rfl rfl rfl rfl fun W' _ hw => ⟨.mk 3 false 0 t nilU [] nilU [], j2, ok2, by omega, k2, JOK.leaf _ _ _ _ _, rfl, hw, ⟨fun e => ?_, fun e1 e2 => ?_⟩⟩
      · obtain ⟨a1, a2⟩ := ho1 e
        exact ⟨a1, by rw [hB, a2]; (first | done | rfl)⟩
      · rw [hB, ho2 e1 e2]
    have g2 : ¬ y = 34 := g2
    rw [if_neg (fun h => g2 (by rw [hb, h]; (first | done | rfl)))] at hB
    have hone : ∀ n : UInt8, (s.drop j).take 1 = [n] ↔ c = n := fun n => by rw [hdr]; simp
    refine call_m1 rfl rfl rfl rfl k127 (fun g' Wi li how => (jtake_x s [91] hs (by decide) j h2 ok g' Wi how).mono fun v Wj hv lj => ?_)
    rw [show [(91 : UInt8)].length = 1 from rfl, hone] at hv
    rcases hv with ⟨e, rfl, hl, hw⟩ | ⟨e, rfl, hw⟩
    · rw [if_pos e] at hB
      refine ⟨_, hw, ?_⟩
      have l5 := l4.trans (li.trans lj)
      refine call_m1 rfl rfl rfl rfl k129 (fun g' Wk lk how => (show CallsX Tryd.prog 129 ⟨[.pointer (some ⟨g', 0, none⟩), .int .i64 z]⟩ [g'] Wk fun v W' => OutV s (j + 1) ok g' (listJ (valueJ d) ((s.drop (j + 1)).length + 1) [] (s.drop (j + 1))) v W' from hz ▸ jlist_x d (by omega) hval s hs (j + 1) hl ok g' Wk (hE.mono (l5.trans lk)) (hT.mono (l5.trans lk)) how).mono fun v Wl hv ll => ?_)
      obtain ⟨x, j2, ok2, k1, k2, hx2, rfl, hw, ho⟩ := hv
      refine ⟨_, hw, ?_⟩
      obtain ⟨xk, xb, xi, xt, xA, xl, xc, xA', xks, xc', rfl, _⟩ := hx2.form
      exact ret_m1 rfl rfl rfl rfl fun W' lw hw => ⟨_, j2, ok2, by omega, k2, hx2.mono lw, rfl, hw, by rw [hB]; exact ho⟩
    rw [if_neg e] at hB
    refine ⟨_, hw, ?_⟩
    refine call_m1 rfl rfl rfl rfl k127 (fun g' Wm lm how => (jtake_x s [123] hs (by decide) j h2 ok g' Wm how).mono fun v Wn hv ln => ?_)
    rw [show [(123 : UInt8)].length = 1 from rfl, hone] at hv
    have l5 := l4.trans (li.trans (lj.trans (lm.trans ln)))
    rcases hv with ⟨e, rfl, hl, hw⟩ | ⟨e, rfl, hw⟩
    · rw [if_pos e] at hB
      refine ⟨_, hw, ?_⟩
      refine call_m1 rfl rfl rfl rfl k130 (fun g' Wk lk how => (show CallsX Tryd.prog 130 ⟨[.pointer (some ⟨g', 0, none⟩), .int .i64 z]⟩ [g'] Wk fun v W' => OutV s (j + 1) ok g' (tableJ (valueJ d) ((s.drop (j + 1)).length + 1) [] [] (s.drop (j + 1))) v W' from hz ▸ jtable_x d (by omega) hval s hs (j + 1) hl ok g' Wk (hE.mono (l5.trans lk)) (hT.mono (l5.trans lk)) how).mono fun v Wl hv ll => ?_)
      obtain ⟨x, j2, ok2, k1, k2, hx2, rfl, hw, ho⟩ := hv
      refine ⟨_, hw, ?_⟩
      obtain ⟨xk, xb, xi, xt, xA, xl, xc, xA', xks, xc', rfl, _⟩ := hx2.form
      exact ret_m1 rfl rfl rfl rfl fun W' lw hw => ⟨_, j2, ok2, by omega, k2, hx2.mono lw, rfl, hw, by rw [hB]; exact ho⟩
    rw [if_neg e] at hB
    refine ⟨_, hw, ?_⟩
    refine call_m1 rfl rfl rfl rfl k131 (fun g' Wk lk how => (jnum_x s hs j h2 ok g' Wk (hE.mono (l5.trans lk)) (hT.mono (l5.trans lk)) how).mono fun v Wl hv ll => ?_)
    obtain ⟨x, j2, ok2, k1, k2, hx2, rfl, hw, ho⟩ := hv
    refine ⟨_, hw, ?_⟩
    obtain ⟨xk, xb, xi, xt, xA, xl, xc, xA', xks, xc', rfl, _⟩ := hx2.form
    exact ret_m1 rfl rfl rfl rfl fun W' lw hw => ⟨_, j2, ok2, by omega, k2, hx2.mono lw, rfl, hw, by rw [hB]; exact ho⟩
theorem validd_x (s : List UInt8) (hs : s.length ≤ 1000000) (W : PW) (hU : HU W) : CallsX Tryd.prog 86 ⟨[strV s]⟩ [] W fun v _ => v = .bool (Lib.validD s) :=
  CallsX.of_below ⟨_, Tryd.func86, by kernel_rfl, by kernel_rfl⟩ ((Tryd.utf8_ValidString ⟨⟨s⟩⟩ W.w (by show s.length ≤ _; omega) hU.2.2).mono fun _ _ ⟨he, hb⟩ => ⟨_, he, hb, rfl⟩)
def PJR (W : PW) (v : Value) (r : JT × Int) : Prop := ∃ x : JV, JOK W x ∧ v = .tuple ⟨[.agg ⟨x.cells⟩, .int .i64 r.2]⟩ ∧ x.er = r.1
theorem pjr_null (W : PW) (e : Int) : PJR W (.tuple ⟨[.agg ⟨nullV.cells⟩, .int .i64 e]⟩) (nullT, e) := ⟨nullV, JOK.leaf _ _ _ _ _, rfl, rfl⟩
set_option maxRecDepth 200000 in
set_option maxHeartbeats 8000000 in
theorem jparse_x (s : List UInt8) (hs : s.length ≤ 1000000) (W : PW) (hE : HE W) (hT : HTJ W) (hU : HU W) : CallsX Tryd.prog 45 ⟨[strV s]⟩ [] W fun v W' => PJR W' v (parseJ s) := by
  refine pureX hmix Tryd.func45 r45 (by kernel_rfl) [strV s] rfl ?_
  refine ⟨rfl, br_split (fun g1 => ?_) (fun g1 => ?_)⟩
  · have g1 : (65536 : Int) < (s.length : Int) := g1
    refine ret_plain rfl fun W' _ => ?_
    unfold parseJ
    rw [if_pos (by omega)]
    exact pjr_null W' 5
  have g1 : ¬ (65536 : Int) < (s.length : Int) := g1
  have hP : parseJ s = if Lib.validD s = false then ((nullT, 4) : JT × Int) else match valueJ 16 s with
    | some (v, r) => if skipJ r = [] then (v, 0) else (nullT, 4)
    | none => (nullT, 4) := by unfold parseJ; rw [if_neg (by omega)]; (first | done | rfl)
  refine call_v rfl (fun W' lw => validd_x s hs W' (hU.mono lw)) (fun W1 v W2 l1 l2 hv => ?_)
  obtain ⟨b, hb, rfl⟩ : ∃ b, Lib.validD s = b ∧ v = .bool b := ⟨_, rfl, hv⟩
  rw [hb] at hP
  cases b with
  | false =>
    rw [if_pos rfl] at hP
    refine ret_plain rfl fun W' _ => ?_
    rw [hP]; exact pjr_null W' 4
  | true =>
    rw [if_neg (by decide)] at hP
    have l3 := l1.trans l2
    refine call_m1 (k := 1) rfl rfl rfl rfl k87 (fun g' W3 l4 how => (jvalue_x 16 (by decide) s 0 true g' W3 (by omega) (Nat.zero_le _) (hE.mono (l3.trans l4)) (hT.mono (l3.trans l4)) how).mono fun v W4 hv l5 => ?_)
    obtain ⟨x, j, ok, k1, k2, hx, rfl, hw, ho1, ho2⟩ := hv
    rw [List.drop_zero] at ho1 ho2
    refine ⟨_, hw, ?_⟩
    obtain ⟨xk, xb, xi, xt, xA, xl, xc, xA', xks, xc', rfl, _⟩ := hx.form
    refine call_m1 (k := 1) rfl rfl rfl rfl k88 (fun g' W5 l6 how => (jblanks_x s (by omega) j k2 ok g' W5 how).mono fun v W6 hv l7 => ?_)
    obtain ⟨j2, m1, m2, m3, hw⟩ := hv
    refine ⟨_, hw, ?_⟩
    cases ok with
    | false =>
      rw [ho2 rfl rfl] at hP
      refine ret_plain rfl fun W' _ => ?_
      rw [hP]; exact pjr_null W' 4
    | true =>
      rw [(ho1 rfl).2] at hP
      dsimp only at hP
      rw [← m3] at hP
      refine ⟨rfl, br_split (fun g2 => ?_) (fun g2 => ?_)⟩
      · have g2 : (j2 : Int) < (s.length : Int) := g2
        rw [if_neg (fun h => by have := congrArg List.length h; rw [List.length_drop] at this; simp at this; omega)] at hP
        refine ret_plain rfl fun W' _ => ?_
        rw [hP]; exact pjr_null W' 4
      · have g2 : ¬ (j2 : Int) < (s.length : Int) := g2
        rw [if_pos (List.drop_eq_nil_of_le (by omega))] at hP
        refine ret_plain rfl fun W' lw => ?_
        rw [hP]
        exact ⟨_, hx.mono ((l6.trans l7).trans lw), rfl, rfl⟩
end Go.Proofs.YtkhgmmejgikgnaaDoor
