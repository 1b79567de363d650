/- Requests, walked: http.Parse. -/
import Derived.Test.YtkhgmmejgikgnaaDoorHttF
import Derived.Test.YtkhgmmejgikgnaaDoorCutB
namespace Go.Proofs.YtkhgmmejgikgnaaDoor
open Go.RowKit

theorem splitK_ne (sep : List UInt8) : ∀ (k : Nat) (s : List UInt8), ∃ a r, Lib.splitK sep 0 k s = a :: r
  | 0, s => ⟨s, [], rfl⟩
  | k + 1, s => by
    unfold Lib.splitK
    split
    · exact ⟨_, _, rfl⟩
    · exact ⟨_, _, rfl⟩
theorem splitK_len (sep : List UInt8) : ∀ (k : Nat) (s : List UInt8), (Lib.splitK sep 0 k s).length ≤ k + 1
  | 0, s => Nat.le_refl _
  | k + 1, s => by
    unfold Lib.splitK
    split
    · simp
    · have := splitK_len sep k (s.drop ((Lib.index s sep).toNat + sep.length))
      simp only [List.length_cons]; omega
theorem split_len (s sep : List UInt8) : (Lib.split s sep).length ≤ s.length + 2 := by
  have h1 := splitK_len sep (Lib.count s sep) s
  have h2 := Lib.count_le s sep
  unfold Lib.split; omega
theorem not_much {l : List (List UInt8)} (h : muchS l = false) : l.length ≤ 33 ∧ ∀ s ∈ l, s.length ≤ 2048 := by
  unfold muchS at h
  rw [Bool.or_eq_false_iff] at h
  refine ⟨by have := of_decide_eq_false h.2; omega, fun s hs => ?_⟩
  have := List.any_eq_false.1 h.1 s hs
  have := of_decide_eq_false (Bool.eq_false_iff.2 this)
  omega
def ParsR (W : PW) (v : Value) (r : Int × Option FirstR) : Prop :=
  match r.2 with
  | some f => ∃ q A n c A' n' c', v = .tuple ⟨[.agg ⟨reqC f.m f.p q (.slice A n c) (.slice A' n' c')⟩, .int .i64 r.1]⟩ ∧ RP pairC W q f.q
  | none => v = .tuple ⟨[.agg ⟨reqC [] [] (.slice none 0 0) (.slice none 0 0) (.slice none 0 0)⟩, .int .i64 r.1]⟩
theorem trim_le (v : List UInt8) (s : List UInt8) : (Lib.trimS v s).length ≤ v.length := by
  unfold Lib.trimS Lib.trimLeftS Lib.trimRightS
  refine Nat.le_trans ((List.dropWhile_sublist _).length_le) ?_
  rw [List.length_reverse]
  refine Nat.le_trans ((List.dropWhile_sublist _).length_le) ?_
  rw [List.length_reverse]; exact Nat.le_refl _
theorem hdr_val {line : List UInt8} {h : PairS} (e : headerS line = some h) : h.value.length ≤ line.length := by
  unfold headerS at e
  split at e
  · simp only [Option.some.injEq] at e
    subst e
    exact Nat.le_trans (trim_le _ _) (cutW_len 58 line).2
  · cases e
theorem hdrF_len {n : Nat} (name : List UInt8) : ∀ (l : List PairS) (r : List UInt8 × Nat), r.1.length ≤ n → (∀ p ∈ l, p.value.length ≤ n) → (l.foldl (getF name) r).1.length ≤ n
  | [], r, hr, _ => hr
  | p :: l, r, hr, h => by
    rw [List.foldl_cons]
    refine hdrF_len name l _ ?_ fun q hq => h q (List.mem_cons_of_mem _ hq)
    unfold getF
    split
    · exact h p (List.mem_cons_self ..)
    · exact hr
theorem hdrS_len {n : Nat} (name : List UInt8) {l : List PairS} (h : ∀ p ∈ l, p.value.length ≤ n) : (hdrS l name).1.length ≤ n := by
  unfold hdrS
  split
  · exact hdrF_len name l _ (Nat.zero_le _) h
  · exact Nat.zero_le _
theorem headersS_cons (hs : List PairS) (l : List UInt8) (r : List (List UInt8)) : headersS hs (l :: r) = match headerS l with | some h => headersS (hs ++ [h]) r | none => (hs, false) := rfl
structure HSt where
  i : Nat
  ok : Bool
  hs : List PairS
  A : Option Addr
  c : Nat
def HInv (r : List (List UInt8)) (ok0 : Bool) (t : HSt) : Prop :=
  t.i ≤ r.length ∧ t.hs.length ≤ t.i ∧ (∀ p ∈ t.hs, p.value.length ≤ 2048) ∧ (ok0 = false → t.ok = false) ∧ (ok0 = true → headersS [] r = if t.ok = true then headersS t.hs (r.drop t.i) else (t.hs, false))
theorem hinv_skip {r : List (List UInt8)} {ok0 : Bool} {t : HSt} (h : HInv r ok0 t) (hok : t.ok = false) (hi : t.i < r.length) : HInv r ok0 { t with i := t.i + 1 } := by
  obtain ⟨h1, h2, h3, h4, h5⟩ := h
  refine ⟨by show t.i + 1 ≤ _; omega, by show t.hs.length ≤ t.i + 1; omega, h3, h4, fun e => ?_⟩
  have := h5 e
  rw [hok, if_neg (by decide)] at this
  show _ = if t.ok = true then _ else _
  rw [hok, if_neg (by decide)]; exact this
theorem hinv_more {r : List (List UInt8)} {ok0 : Bool} {t : HSt} {x : List UInt8} {h : PairS} (hI : HInv r ok0 t) (hok : t.ok = true) (hx : r[t.i]? = some x) (hl : x.length ≤ 2048) (e : headerS x = some h) (A : Option Addr) (c : Nat) : HInv r ok0 ⟨t.i + 1, true, t.hs ++ [h], A, c⟩ := by
  obtain ⟨h1, h2, h3, h4, h5⟩ := hI
  have hi := (List.getElem?_eq_some_iff.1 hx).1
  refine ⟨by show t.i + 1 ≤ _; omega, by show (t.hs ++ [h]).length ≤ t.i + 1; rw [List.length_append, List.length_singleton]; omega, fun p hp => ?_, fun e0 => (by rw [h4 e0] at hok; cases hok), fun e0 => ?_⟩
  · rcases List.mem_append.1 hp with hp | hp
    · exact h3 p hp
    · rw [List.mem_singleton.1 hp]
      have := hdr_val e
      omega
  · have := h5 e0
    rw [hok, if_pos rfl, drop_qq hx] at this
    rw [this]
    show headersS t.hs (x :: _) = headersS (t.hs ++ [h]) (r.drop (t.i + 1))
    rw [headersS_cons, e]
theorem hinv_stop {r : List (List UInt8)} {ok0 : Bool} {t : HSt} {x : List UInt8} (hI : HInv r ok0 t) (hok : t.ok = true) (hx : r[t.i]? = some x) (e : headerS x = none) : HInv r ok0 { t with i := t.i + 1, ok := false } := by
  obtain ⟨h1, h2, h3, h4, h5⟩ := hI
  have hi := (List.getElem?_eq_some_iff.1 hx).1
  refine ⟨by show t.i + 1 ≤ _; omega, by show t.hs.length ≤ t.i + 1; omega, h3, fun _ => rfl, fun e0 => ?_⟩
  have := h5 e0
  rw [hok, if_pos rfl, drop_qq hx] at this
  rw [this]
  show headersS t.hs (x :: _) = (t.hs, false)
  rw [headersS_cons, e]
theorem cut_yes {A : Option Addr} {n c k i : Nat} {z : Int} (h : z = i) : Lib.cutV A n c k z = .tuple ⟨[.slice A i c, .slice (if c = i + k then A else A.map (fun x => x.add (i + k))) (n - (i + k)) (c - (i + k)), .bool true]⟩ := by
  subst h
  unfold Lib.cutV
  rw [if_pos (by omega)]; (first | done | rfl)
theorem cut_no {A : Option Addr} {n c k : Nat} {z : Int} (h : z < 0) : Lib.cutV A n c k z = .tuple ⟨[.slice A n c, .slice none 0 0, .bool false]⟩ := by
  unfold Lib.cutV
  rw [if_neg (by omega)]
set_option maxRecDepth 4000 in
set_option maxHeartbeats 16000000 in
theorem hparse_x (l : List UInt8) (hl : l.length ≤ 100000) (A : Option Addr) (c : Nat) (hA : A = none → c = 0) (W : PW) (hM : HM W) (hE : HE W) (h : RB W (.slice A l.length c) l) :
    CallsX Tryd.prog 20 ⟨[.slice A l.length c]⟩ [] W fun v W' => ParsR W' v (httpS l) := by
  have hmax : (100000000 : Nat) ≤ maxLen := by decide
  have hcap : l.length ≤ c := by
    obtain ⟨_, _, e, hcap, _⟩ := h.form
    simp only [Value.slice.injEq] at e
    obtain ⟨_, _, rfl⟩ := e
    exact hcap
  refine pureNX hmix Tryd.func20 r20 (by kernel_rfl) [nilO 71 2] rfl [.slice A l.length c] rfl ?_
  refine ⟨rfl, .inr fun g0 => ?_⟩
  refine raw_mark (i := 1) rfl Tryd.underlying33 Tryd.underlying5 rfl rfl (fun _ hb => hb) rfl (fun W1 l1 hlit => ?_)
  have hsep : RB W1 (.slice (some ⟨g0, 0, none⟩) 4 4) crE := ⟨_, _, rfl, Nat.le_refl _, by show 4 ≤ maxLen; omega, fun _ => ⟨_, rfl, hlit⟩⟩
  refine call_v rfl (fun W' lw => bcut_x l crE A c _ W' (hM.mono (l1.trans lw)) (by omega) (by decide) hA (h.mono (l1.trans lw)) (hsep.mono lw)) (fun W2 v W3 l2 l3 hv => ?_)
  have lA := l1.trans (l2.trans l3)
  have hS : httpS l = if Lib.index l crE < 0 then (if l.length ≤ 4099 then (3, none) else (5, none))
    else if 4096 < Lib.index l crE then (5, none)
    else restS (headR (l.take (Lib.index l crE).toNat)) ((l.length : Int) - (Lib.index l crE + 4)) := rfl
  have hroom := Lib.index_room l crE
  obtain ⟨z, hz⟩ : ∃ z, Lib.index l crE = z := ⟨_, rfl⟩
  rw [hz] at hv hS hroom
  by_cases hneg : z < 0
  · rw [cut_no hneg] at hv
    rw [if_pos hneg] at hS
    subst hv
    refine ⟨_, rfl, _, rfl, _, rfl, rfl, br_split (fun h1 => ?_) (fun h1 => ?_)⟩
    · have h1 : (l.length : Int) ≤ 4099 := h1
      rw [if_pos (by omega)] at hS
      exact ret_plain rfl fun _ _ => by rw [hS]; rfl
    · have h1 : ¬ (l.length : Int) ≤ 4099 := h1
      rw [if_neg (by omega)] at hS
      exact ret_plain rfl fun _ _ => by rw [hS]; rfl
  obtain ⟨i, rfl⟩ : ∃ i : Nat, z = i := ⟨z.toNat, by omega⟩
  have hroom : (i : Int) + 4 ≤ l.length := hroom (by omega)
  rw [cut_yes rfl] at hv
  rw [if_neg hneg, Int.toNat_natCast] at hS
  obtain ⟨A', hA'⟩ : ∃ A', (if c = i + 4 then A else A.map (fun x => x.add (i + 4))) = A' := ⟨_, rfl⟩
  obtain ⟨bn, hbn⟩ : ∃ bn, l.length - (i + 4) = bn := ⟨_, rfl⟩
  have hbody := RB.cut h (i := i + 4) (m := l.length) (by omega) (Nat.le_refl _)
  rw [Nat.mul_one, hA', hbn] at hbody
  have hv : v = .tuple ⟨[.slice A i c, .slice A' bn (c - (i + 4)), .bool true]⟩ := by
    rw [hv, ← hA', ← hbn]; rfl
  subst hv
  have hS : httpS l = if 4096 < (i : Int) then (5, none) else restS (headR (l.take i)) (bn : Int) := by
    rw [hS, show (l.length : Int) - ((i : Int) + 4) = (bn : Int) by omega]
  refine ⟨_, rfl, _, rfl, _, rfl, rfl, ?_⟩
  apply br_split
  · intro h1
    have h1 : (4096 : Int) < (i : Int) := h1
    rw [if_pos h1] at hS
    exact ret_plain rfl fun _ _ => by rw [hS]; rfl
  intro h1
  have h1 : ¬ (4096 : Int) < (i : Int) := h1
  rw [if_neg h1] at hS
  have hhead := RB.cut h (i := 0) (m := i) (by omega) (by omega)
  have hhl : (l.take i).length = i := by rw [List.length_take]; omega
  have hhead : ∀ hn : 0 < i, ∃ a, A = some a ∧ Rds W a ((l.take i).map byteV) := fun hn => by
    obtain ⟨A2, c2, e, _, _, h3⟩ := h
    simp only [Value.slice.injEq] at e
    obtain ⟨rfl, _, rfl⟩ := e
    obtain ⟨a, ha, hr⟩ := h3 (by omega)
    refine ⟨a, ha, fun j v hj => hr j v ?_⟩
    rw [List.map_take, List.getElem?_take] at hj
    split at hj
    · exact hj
    · cases hj
  refine ⟨l.take i, hhl, fun hn => .inl (let ⟨a, e, hr⟩ := hhead hn; ⟨a, e, (hr.mono lA).o⟩), ?_⟩
  obtain ⟨hd, hhd⟩ : ∃ hd, l.take i = hd := ⟨_, rfl⟩
  rw [hhd] at hS hhl
  have hsl := split_len hd crS
  have hR : headR hd = if muchS (Lib.split hd crS) = true then none
    else match Lib.split hd crS with
      | [] => none
      | a :: r => match firstS a with
        | none => some none
        | some f => if (headersS [] r).2 = true then match lengthS (headersS [] r).1 with | some n => some (some (f, (headersS [] r).1, n)) | none => some none else some none := rfl
  refine call_v rfl (fun W' lw => splitg_x (l.take i) crS (by decide) (by rw [hhd]; omega) W' (hM.mono (lA.trans lw))) (fun W4 u W5 l4 l5 hu => ?_)
  rw [hhd] at hu
  obtain ⟨ar, har⟩ : ∃ x, Lib.split hd crS = x := ⟨_, rfl⟩
  obtain ⟨a, r, har'⟩ := splitK_ne crS (Lib.count hd crS) hd
  have har' : Lib.split hd crS = a :: r := har'
  rw [har'] at hu hsl hR
  have lB := lA.trans (l4.trans l5)
  obtain ⟨a1, c1, rfl, hc1, _⟩ := hu.form
  refine call_v rfl (fun W' lw => much_x (a :: r) (by omega) _ W' (hu.mono lw)) (fun W6 v W7 l6 l7 hv => ?_)
  obtain ⟨mu, hmu, rfl⟩ : ∃ x, muchS (a :: r) = x ∧ v = .bool x := ⟨_, rfl, hv⟩
  rw [hmu] at hR
  have lC := lB.trans (l6.trans l7)
  apply br_bool
  · intro e
    subst e
    rw [if_pos rfl] at hR
    rw [hR] at hS
    exact ret_plain rfl fun _ _ => by rw [hS]; rfl
  intro e
  subst e
  rw [if_neg (by decide)] at hR
  have hR : headR hd = match firstS a with
    | none => some none
    | some f => if (headersS [] r).2 = true then match lengthS (headersS [] r).1 with | some n => some (some (f, (headersS [] r).1, n)) | none => some none else some none := hR
  obtain ⟨hrl, hml⟩ := not_much hmu
  have hal := hml a (List.mem_cons_self ..)
  have hrl : r.length ≤ 32 := by simp only [List.length_cons] at hrl; omega
  obtain ⟨p1, rfl, x, hx, _, hr1, _⟩ := hu.at (sz := 1) (fun _ => rfl) (l6.trans l7) (j := 0) ⟨by decide, by show (0 : Int) < ((r.length + 1 : Nat) : Int); omega⟩
  obtain rfl : a = x := Option.some.inj hx
  refine ⟨⟨by decide, by show (0 : Int) < ((r.length + 1 : Nat) : Int); omega⟩, p1, rfl, strV a, (hr1 (by decide) _ rfl).o, ?_⟩
  refine call_m1 (k := 1) rfl rfl rfl rfl k59 (fun g' W8 l8 how => (first_x a (by omega) [] [] (.slice none 0 0) (.slice none 0 0) (.slice none 0 0) g' W8 (hM.mono (lC.trans l8)) how).mono fun v W9 hv l9 => ?_)
  obtain ⟨ok0, m, p, q, rfl, hwo, hok, hno⟩ : ∃ ok0 m p q, v = .bool ok0 ∧ OwnB W9 g' (reqC m p q (.slice none 0 0) (.slice none 0 0)) ∧ (ok0 = true → ∃ ql, firstS a = some ⟨m, p, ql⟩ ∧ RP pairC W9 q ql) ∧ (ok0 = false → firstS a = none) := by
    unfold FstR at hv
    cases hf : firstS a with
    | none =>
      rw [hf] at hv
      obtain ⟨rfl, m, p, q, ho⟩ := hv
      exact ⟨false, m, p, q, rfl, ho, fun e => (by cases e), fun _ => rfl⟩
    | some f =>
      rw [hf] at hv
      obtain ⟨rfl, q, hq, ho⟩ := hv
      exact ⟨true, f.m, f.p, q, rfl, ho, fun _ => ⟨f.q, rfl, hq⟩, fun e => by cases e⟩
  refine ⟨_, hwo, ?_⟩
  clear hv
  have lD := lC.trans (l8.trans l9)
  refine ⟨⟨by decide, by show (1 : Int) ≤ ((r.length + 1 : Nat) : Int); omega, by show ((r.length + 1 : Nat) : Int) ≤ (c1 : Int); simp only [List.length_cons] at hc1; omega⟩, ?_⟩
  have hrest := RP.cut (sz := 1) (fun _ => rfl) hu (l := 1) (m := (a :: r).length) (by simp) (Nat.le_refl _)
  have er : (((a :: r).drop 1).take ((a :: r).length - 1)) = r := by
    show r.take (r.length + 1 - 1) = r
    rw [Nat.add_sub_cancel, List.take_length]
  rw [er] at hrest
  have hrest : RP sC W5 (.slice (if c1 = 1 then some p1 else (some p1).map (·.add (1 * 1))) r.length (c1 - 1)) r := hrest
  have lE : W5.Le W9 := l6.trans (l7.trans (l8.trans l9))
  obtain ⟨bd, hbdl, hbd⟩ : ∃ bd : List UInt8, bd.length = bn ∧ RB W (.slice A' bd.length (c - (i + 4))) bd := by
    refine ⟨(l.drop (i + 4)).take bn, ?_, ?_⟩
    · rw [List.length_take, List.length_drop]; omega
    · have e : ((l.drop (i + 4)).take bn).length = bn := by rw [List.length_take, List.length_drop]; omega
      rw [e]; exact hbody
  subst hbdl
  refine ⟨HSt, fun t => [(53, .v (.int .i64 t.i)), (9, .v (.bool t.ok))], fun t => [(reqC [] [] (.slice none 0 0) (.slice none 0 0) (.slice none 0 0)).map .v, (reqC m p q (.slice t.A t.hs.length t.c) (.slice none 0 0)).map .v], fun t => [pairO (.slice t.A t.hs.length t.c) t.hs], fun t _ => HInv r ok0 t, fun t => r.length - t.i, ⟨0, ok0, [], none, 0⟩,
    all_sl ⟨rfl, rfl, trivial⟩, rfl, ole_refl _, ⟨Nat.zero_le _, Nat.le_refl _, fun p hp => (by cases hp), fun e => e, fun e => by rw [if_pos e]; rfl⟩, loopOK (fun _ => ⟨⟨trivial, rfl⟩, ⟨trivial, rfl⟩, trivial⟩) (fun _ => rfl) (fun _ => rfl), ?_⟩
  rintro ⟨j, ok, hs, Ah, ch⟩ W10 l10 hI fr
  have hj := hI.1
  have hhsl := hI.2.1
  have hvals := hI.2.2.1
  dsimp only at hj hhsl hvals
  refine ⟨rfl, br_split (fun hq => ?_) (fun hq => ?_)⟩
  · have hq : (j : Int) < (r.length : Nat) := hq
    obtain ⟨p2, e2, x, hx, _, hr2, _⟩ := hrest.at (sz := 1) (fun _ => rfl) (lE.trans l10) (j := j) ⟨by omega, hq⟩
    have hx : r[j]? = some x := hx
    have hxl := hml x (List.mem_cons_of_mem _ (List.mem_of_getElem? hx))
    have inc := (i64_in ((j : Int) + 1) ⟨by omega, by omega⟩).symm
    refine ⟨⟨by omega, hq⟩, p2, e2, strV x, (hr2 (by decide) _ rfl).o, ?_⟩
    apply br_bool
    · intro e
      subst e
      refine call_m1O (i := 0) (k := 1) rfl rfl rfl rfl rfl rfl k60 (fun g2 W11 l11 how hown hne => (addhdr_x x (by omega) hs (by omega) m p q (.slice none 0 0) Ah ch g2 W11 (hM.mono (lD.trans (l10.trans l11))) how hown hne).mono fun v W12 hv l12 => ?_)
      unfold HdrR at hv
      cases hh : headerS x with
      | none =>
        rw [hh] at hv
        obtain ⟨rfl, h1, h2⟩ := hv
        refine ⟨_, _, h1, h2, ?_⟩
        exact ⟨rfl, _, inc, ⟨j + 1, false, hs, Ah, ch⟩, all_sl ⟨rfl, rfl, trivial⟩, rfl, ole_refl _, hinv_stop (t := ⟨j, true, hs, Ah, ch⟩) hI rfl hx hh, by dsimp only; omega⟩
      | some y =>
        rw [hh] at hv
        obtain ⟨rfl, A3, c3, h1, h2⟩ := hv
        refine ⟨_, _, h1, h2, ?_⟩
        exact ⟨rfl, _, inc, ⟨j + 1, true, hs ++ [y], A3, c3⟩, all_sl ⟨rfl, rfl, trivial⟩, rfl, ole_refl _, hinv_more (t := ⟨j, true, hs, Ah, ch⟩) hI rfl hx hxl hh A3 c3, by dsimp only; omega⟩
    · intro e
      subst e
      exact ⟨rfl, _, inc, ⟨j + 1, false, hs, Ah, ch⟩, all_sl ⟨rfl, rfl, trivial⟩, rfl, ole_refl _, hinv_skip (t := ⟨j, false, hs, Ah, ch⟩) hI rfl (by dsimp only; omega), by dsimp only; omega⟩
  have hq : ¬ (j : Int) < (r.length : Nat) := hq
  have hend : ok0 = true → headersS [] r = (hs, ok) := fun e => by
    have := hI.2.2.2.2 e
    dsimp only at this
    rw [List.drop_eq_nil_of_le (by omega)] at this
    rw [this]
    cases ok
    · rfl
    · rfl
  have hoff : ok0 = false → ok = false := hI.2.2.2.1
  refine call_ro (fun v => LenR v (lengthS hs)) k61 (fun ρ w hst => ?_) (fun v W11 l11 hv => ?_)
  · have hv := hst.var_all (k := 1) (vs := reqC m p q (.slice Ah hs.length ch) (.slice none 0 0)) rfl rfl
    have ho := hst.own_all (i := 0) rfl
    have := hdrS_len clenN hvals
    exact length_x hs m p (by omega) q _ _ (ρ 1) (PW.all w) ((hE.mono (lD.trans l10)).mono hst.le_all) hv ho (by omega)
  obtain ⟨n, told, rfl, hyes, hnot⟩ : ∃ n told, v = .tuple ⟨[.int .i64 n, .bool told]⟩ ∧ (told = true → lengthS hs = some n) ∧ (told = false → lengthS hs = none) := by
    unfold LenR at hv
    cases hle : lengthS hs with
    | none =>
      rw [hle] at hv
      obtain ⟨n, rfl⟩ := hv
      exact ⟨n, false, rfl, fun e => (by cases e), fun _ => rfl⟩
    | some n =>
      rw [hle] at hv
      exact ⟨n, true, hv, fun _ => rfl, fun e => (by cases e)⟩
  clear hv
  have form : headR hd = some none → httpS l = (4, none) := fun e => by rw [hS, e]; rfl
  refine ⟨_, rfl, _, rfl, br_nsplit' (fun e => ?_) (fun e => ?_)⟩
  · subst e
    have hf : headR hd = some none := by
      rw [hR]
      cases ok0 with
      | false => rw [hno rfl]
      | true =>
        obtain ⟨ql, hf, _⟩ := hok rfl
        rw [hf, hend rfl]
        rfl
    exact ret_plain rfl fun _ _ => by rw [form hf]; rfl
  subst e
  obtain rfl : ok0 = true := by
    cases ok0
    · exact absurd (hoff rfl) (by decide)
    · rfl
  obtain ⟨ql, hf, hq2⟩ := hok rfl
  rw [hf, hend rfl] at hR
  have hR : headR hd = match lengthS hs with | some n => some (some (⟨m, p, ql⟩, hs, n)) | none => some none := hR
  refine br_nsplit' (fun e => ?_) (fun e => ?_)
  · subst e
    rw [hnot rfl] at hR
    exact ret_plain rfl fun _ _ => by rw [form hR]; rfl
  subst e
  rw [hyes rfl] at hR
  have hS : httpS l = if 8192 < n then (5, none) else if (bd.length : Int) < n then (3, none) else if n < (bd.length : Int) then (6, none) else (0, some ⟨m, p, ql⟩) := by rw [hS, hR]; rfl
  refine ⟨rfl, br_split (fun e => ?_) (fun e => ?_)⟩
  · have e : (8192 : Int) < n := e
    rw [if_pos e] at hS
    exact ret_plain rfl fun _ _ => by rw [hS]; rfl
  have e1 : ¬ (8192 : Int) < n := e
  rw [if_neg e1] at hS
  refine ⟨rfl, br_split (fun e => ?_) (fun e => ?_)⟩
  · have e : (bd.length : Int) < n := e
    rw [if_pos e] at hS
    exact ret_plain rfl fun _ _ => by rw [hS]; rfl
  have e2 : ¬ (bd.length : Int) < n := e
  rw [if_neg e2] at hS
  refine ⟨rfl, br_split (fun e => ?_) (fun e => ?_)⟩
  · have e : n < (bd.length : Int) := e
    rw [if_pos e] at hS
    exact ret_plain rfl fun _ _ => by rw [hS]; rfl
  have e3 : ¬ n < (bd.length : Int) := e
  rw [if_neg e3] at hS
  refine call_v rfl (fun W' lw => bclone_x bd A' (c - (i + 4)) W' (by omega) (hbd.mono (lD.trans (l10.trans (l11.trans lw))))) (fun W12 v W13 l12 l13 hv => ?_)
  obtain ⟨Ab, nb, cb, rfl⟩ := hv
  obtain ⟨aq, cq, rfl, _, _⟩ := hq2.form
  refine ret_plain rfl fun W' lw => ?_
  rw [hS]
  exact ⟨_, _, _, _, _, _, _, rfl, hq2.mono (l10.trans (l11.trans (l12.trans (l13.trans lw))))⟩
end Go.Proofs.YtkhgmmejgikgnaaDoor
