/- Layer 18 (strata), walked: newIndex. -/
import Derived.Test.YtcgbcbdgjhnlaaaGreatXMC
import Derived.Test.YtcgbcbdgjhnlaaaGreatXCodeZ
import Derived.StringKeys
namespace Go.Proofs.YtcgbcbdgjhnlaaaGreat
open Go.RowKit Go.Maps

theorem relKeys_snoc (nm : List UInt8) (i : Nat) (r : RelS) : ∀ (k : Nat) (rs : List RelS), relKeys nm i k (rs ++ [r]) = relKeys nm i k rs ++ [(⟨nm, r.name⟩, (i, k + rs.length))]
  | _, [] => rfl
  | k, q :: rs => by
    show (_ :: relKeys nm i (k + 1) (rs ++ [r])) = (_ :: (relKeys nm i (k + 1) rs ++ _))
    rw [relKeys_snoc nm i r (k + 1) rs, List.length_cons, show k + 1 + rs.length = k + (rs.length + 1) by omega]
theorem relKeys_pre (nm : List UInt8) (i : Nat) : ∀ (k n : Nat) (rs : List RelS), relKeys nm i k (rs.take n) <+: relKeys nm i k rs
  | _, 0, _ => List.nil_prefix
  | _, _ + 1, [] => List.prefix_refl _
  | k, n + 1, _ :: rs => (List.prefix_cons_inj _).2 (relKeys_pre nm i (k + 1) n rs)
theorem spaceKeys_snoc (s : SpaceS) : ∀ (i : Nat) (l : List SpaceS), spaceKeys i (l ++ [s]) = spaceKeys i l ++ relKeys s.name (i + l.length) 0 s.rels
  | i, [] => by simp [spaceKeys]
  | i, q :: l => by
    show relKeys q.name i 0 q.rels ++ spaceKeys (i + 1) (l ++ [s]) = (relKeys q.name i 0 q.rels ++ spaceKeys (i + 1) l) ++ _
    rw [spaceKeys_snoc s (i + 1) l, List.append_assoc, List.length_cons, show i + 1 + l.length = i + (l.length + 1) by omega]
theorem spaceKeys_pre : ∀ (i n : Nat) (l : List SpaceS), spaceKeys i (l.take n) <+: spaceKeys i l
  | _, 0, _ => List.nil_prefix
  | _, _ + 1, [] => List.prefix_refl _
  | i, n + 1, _ :: l => (List.prefix_append_right_inj _).2 (spaceKeys_pre (i + 1) n l)
theorem findK_snoc (ks : List (TypS × Spot)) (t0 t : TypS) (s : Spot) : findK (ks ++ [(t0, s)]) t = (findK ks t).or (if t0 = t then some s else none) := by
  unfold findK
  rw [List.find?_append]
  cases h : ks.find? fun p => decide (p.1 = t) with
  | some p => rfl
  | none =>
    rw [Option.none_or]
    by_cases e : t0 = t <;> simp [e]
theorem findK_mem {ks : List (TypS × Spot)} {t : TypS} (h : (findK ks t).isSome = true) : t ∈ ks.map (·.1) := by
  unfold findK at h
  rw [Option.isSome_map] at h
  obtain ⟨p, hp⟩ := Option.isSome_iff_exists.1 h
  have h2 : p.1 = t := by simpa using List.find?_some hp
  exact List.mem_map.2 ⟨p, List.mem_of_find?_eq_some hp, h2⟩
theorem findK_none {ks : List (TypS × Spot)} {t : TypS} (h : findK ks t = none) : t ∉ ks.map (·.1) := by
  intro hm
  obtain ⟨p, hp, e⟩ := List.mem_map.1 hm
  unfold findK at h
  rw [Option.map_eq_none_iff, List.find?_eq_none] at h
  exact h p hp (by simpa using e)
theorem nodup_snoc {α : Type} {l : List α} {x : α} (h : l.Nodup) (hx : x ∉ l) : (l ++ [x]).Nodup := by
  rw [List.nodup_append]
  exact ⟨h, by simp, fun a ha b hb e => hx (by rw [List.mem_singleton.1 hb] at e; exact e ▸ ha)⟩
theorem nodup_not {α : Type} {l l' : List α} {x : α} (hp : l ++ [x] <+: l') (hx : x ∈ l) : ¬ l'.Nodup := by
  intro h
  have := h.sublist hp.sublist
  rw [List.nodup_append] at this
  exact this.2.2 x hx x (List.mem_singleton.2 rfl) rfl

def SeenN (W : PW) (g : Nat) (ks : List (List UInt8)) : Prop := ∃ D : DataW Unit, W.w.ownsMap (H := Unit) Tryz.prog 9 (plainElem Tryz.prog 4) g ks.length D ∧ IsMap D ∧ ∀ k : List UInt8, D.atKey (.string k) (.lit (.bool false)) = .lit (.bool (decide (k ∈ ks)))
def KeyN (W : PW) (g : Nat) (ks : List (TypS × Spot)) : Prop := ∃ D : DataW Unit, W.w.ownsMap (H := Unit) Tryz.prog 97 spotR g ks.length D ∧ Tidy D ∧ Maps.size D = ks.length ∧
  ∀ t : TypS, smT t → Maps.has D (keyL t) = (findK ks t).isSome ∧ D.atKey (keyL t) (spotD (0, 0)) = spotD ((findK ks t).getD (0, 0))
theorem SeenN.same {W W' : PW} {g : Nat} {ks : List (List UInt8)} (h : SeenN W g ks) (e : W'.w.heap[g]? = W.w.heap[g]?) : SeenN W' g ks := let ⟨D, h1, h2⟩ := h; ⟨D, ownsMap_same h1 e, h2⟩
theorem KeyN.same {W W' : PW} {g : Nat} {ks : List (TypS × Spot)} (h : KeyN W g ks) (e : W'.w.heap[g]? = W.w.heap[g]?) : KeyN W' g ks := let ⟨D, h1, h2⟩ := h; ⟨D, ownsMap_same h1 e, h2⟩
theorem keyed_s : Keyed Tryz.prog 9 := string_keyed Tryz.underlying9
theorem zero_b (w : World) : (zeroValue 4).run Tryz.prog w = .ok (.bool false) w := by kernel_rfl
theorem plain_bool_inv {P : Program} {e : TypeId} {v : Value} {b : Bool} {ps : List MemPlace} (he : P.underlying e = some .bool) (h : plainElem (H := Unit) P e v = some (.lit (.bool b), ps)) : v = .bool b := by
  unfold plainElem at h
  rw [he] at h
  cases v <;> simp_all
theorem key_s (k : List UInt8) (hk : k.length ≤ 9223372036854775807) : keyOf Tryz.prog 9 (strV k) = some (.string k) := WideMaps.keyOf_string_mk Tryz.underlying9 (Nat.le_trans hk (by decide))
theorem seen_put {D : DataW Unit} {ks : List (List UInt8)} (k : List UInt8) (hm : IsMap D) (hD : ∀ k : List UInt8, D.atKey (.string k) (.lit (.bool false)) = .lit (.bool (decide (k ∈ ks)))) : IsMap (D.put (.string k) (.lit (.bool true))) ∧ ∀ k' : List UInt8, (D.put (.string k) (.lit (.bool true))).atKey (.string k') (.lit (.bool false)) = .lit (.bool (decide (k' ∈ ks ++ [k]))) := by
  refine ⟨hm.put _ _, fun k' => ?_⟩
  by_cases h : k' = k
  · subst h
    rw [atKey_put_same hm (show WideAt.IsKeyLit (.string k') from trivial), decide_eq_true (List.mem_append_right _ (List.mem_singleton.2 rfl))]
  · rw [atKey_put_other (fun e => h (by simpa using e)), hD k', show decide (k' ∈ ks) = decide (k' ∈ ks ++ [k]) by rw [decide_eq_decide]; simp [h]]
theorem key_put {D : DataW Unit} {ks : List (TypS × Spot)} {t0 : TypS} (s : Spot) (h0 : smT t0) (hn : findK ks t0 = none) (hT : Tidy D) (hs : Maps.size D = ks.length)
    (hD : ∀ t : TypS, smT t → Maps.has D (keyL t) = (findK ks t).isSome ∧ D.atKey (keyL t) (spotD (0, 0)) = spotD ((findK ks t).getD (0, 0))) :
    Tidy (D.put (keyL t0) (spotD s)) ∧ Maps.size (D.put (keyL t0) (spotD s)) = (ks ++ [(t0, s)]).length ∧ ∀ t : TypS, smT t → Maps.has (D.put (keyL t0) (spotD s)) (keyL t) = (findK (ks ++ [(t0, s)]) t).isSome ∧ (D.put (keyL t0) (spotD s)).atKey (keyL t) (spotD (0, 0)) = spotD ((findK (ks ++ [(t0, s)]) t).getD (0, 0)) := by
  have hk : WideAt.IsKeyLit (keyL t0) := trivial
  refine ⟨hT.put hk _, ?_, fun t ht => ?_⟩
  · rw [size_put hT, (hD t0 h0).1, hn, List.length_append, hs]; rfl
  · rw [findK_snoc]
    by_cases e : t0 = t
    · subst e
      rw [has_put_same hT.isMap hk, atKey_put_same hT.isMap hk, hn, if_pos rfl]
      exact ⟨rfl, rfl⟩
    · have hne : keyL t ≠ keyL t0 := fun h => e (keyL_inj h0 ht h.symm)
      rw [has_put_other hne, atKey_put_other hne, if_neg e, Option.or_none]
      exact hD t ht
section
variable {B : Base}
theorem raw_seen {o : Oper} {m x : Operand} {g : Nat} {k : List UInt8} {ks : List (List UInt8)} {b : Bool} {f : Fr} {prot : List Nat} {S : GS} {K : GV → GS → Prop} (hb : decide (k ∈ ks) = b) (ho : o.op = .lookup 135 m x false) (hm : evG f m = .v (.map (some g))) (hx : evG f x = .v (strV k)) (hk : k.length ≤ 9223372036854775807) (hA : S.W.A g) (h : SeenN S.W g ks)
    (hK : K (.v (.bool b)) S) : RawVC Tryz.prog B o f prot S K := by
  subst hb
  refine ⟨fun ρ w ev hev hst => ⟨.v (.bool (decide (k ∈ ks))), S, ρ, w, .inl ?_, fun _ _ => rfl, Grow.refl _ _, trivial, hst, hK⟩⟩
  obtain ⟨dst, op, type, pos, after, guard⟩ := o
  obtain rfl : op = .lookup 135 m x false := ho
  have e1 : ev m = .map (some g) := by rw [hev, hm]; rfl
  have e2 : ev x = strV k := by rw [hev, hx]; rfl
  obtain ⟨D, hD1, _, hD⟩ := h
  have hown : w.ownsMap (H := Unit) Tryz.prog 9 (plainElem Tryz.prog 4) g ks.length D := by
    obtain ⟨es, clock, k1, k2⟩ := hD1
    exact ⟨es, clock, (hst.vblock _ hA).trans k1, k2⟩
  obtain ⟨v, ps, hrun, hv⟩ := hown.lookup keyed_s Tryz.underlying135 (zero_b w) (plainElem_bool Tryz.underlying4 false) (key_s k hk)
  rw [hD k] at hv
  rw [plain_bool_inv Tryz.underlying4 hv] at hrun
  simp only [execOp, e1, e2, Sem.run_bind, hrun, Result.andThen_ok, Sem.run_pure]
  rfl
theorem raw_sput {o : Oper} {m x v : Operand} {g : Nat} {k : List UInt8} {ks : List (List UInt8)} {f : Fr} {prot : List Nat} {S : GS} {K : GV → GS → Prop} (ho : o.op = .mapUpdate 135 m x v) (hm : evG f m = .v (.map (some g))) (hx : evG f x = .v (strV k)) (hv : evG f v = .v (.bool true)) (hk : k.length ≤ 9223372036854775807) (hl : ks.length ≤ 1000000) (hg : PW.Now B S.W g) (h : SeenN S.W g ks)
    (hK : ∀ W' : PW, PW.Ex S.W W' (some g) → PW.Now B W' g → SeenN W' g (ks ++ [k]) → K (.v undef) ⟨S.σ, S.O, W'⟩) : RawVC Tryz.prog B o f prot S K := by
  obtain ⟨D, hD1, hD2, hD⟩ := h
  obtain ⟨n1, n2⟩ := seen_put k hD2 hD
  exact raw_put ho keyed_s Tryz.underlying135 hm (fun ρ => by rw [hx]; rfl) (fun ρ => by rw [hv]; rfl) (key_s k hk) (plainElem_bool Tryz.underlying4 true) (by unfold maxLen; omega) hg hD1 fun W' x1 x2 x3 => hK W' x1 x2 ⟨_, by rw [List.length_append]; exact x3, n1, n2⟩
theorem raw_key {o : Oper} {m x : Operand} {g : Nat} {t : TypS} {ks : List (TypS × Spot)} {fo : Option Spot} {f : Fr} {prot : List Nat} {S : GS} {K : GV → GS → Prop} (hfo : findK ks t = fo) (ho : o.op = .lookup 132 m x true) (hm : evG f m = .v (.map (some g))) (hx : ∀ ρ, (evG f x).real ρ = .agg ⟨typC t⟩) (ht : smT t) (hA : S.W.A g) (h : KeyN S.W g ks)
    (hK : K (.v (.tuple ⟨[.agg ⟨spotC (fo.getD (0, 0))⟩, .bool fo.isSome]⟩)) S) : RawVC Tryz.prog B o f prot S K := by
  subst hfo
  refine ⟨fun ρ w ev hev hst => ⟨.v (.tuple ⟨[.agg ⟨spotC ((findK ks t).getD (0, 0))⟩, .bool (findK ks t).isSome]⟩), S, ρ, w, .inl ?_, fun _ _ => rfl, Grow.refl _ _, trivial, hst, hK⟩⟩
  obtain ⟨dst, op, type, pos, after, guard⟩ := o
  obtain rfl : op = .lookup 132 m x true := ho
  have e1 : ev m = .map (some g) := by rw [hev, hm]; rfl
  have e2 : ev x = .agg ⟨typC t⟩ := by rw [hev, hx]
  obtain ⟨D, ⟨es, clock, k1, k2⟩, _, _, h3⟩ := h
  have hown : w.ownsMap (H := Unit) Tryz.prog 97 spotR g ks.length D := ⟨es, clock, (hst.vblock _ hA).trans k1, k2⟩
  obtain ⟨a1, a2⟩ := h3 t ht
  obtain ⟨v, ps, hrun, hv⟩ := hown.look_ok keyed_t Tryz.underlying132 (zero_spot w) (zd := spotD (0, 0)) (zp := []) rfl (keyOf_t t ht)
  rw [a2] at hv
  rw [spotR_inv hv, a1] at hrun
  simp only [execOp, e1, e2, Sem.run_bind, hrun, Result.andThen_ok, Sem.run_pure]
  rfl
theorem raw_kput {o : Oper} {m x v : Operand} {g : Nat} {t : TypS} {s : Spot} {ks : List (TypS × Spot)} {f : Fr} {prot : List Nat} {S : GS} {K : GV → GS → Prop} (ho : o.op = .mapUpdate 132 m x v) (hm : evG f m = .v (.map (some g))) (hx : ∀ ρ, (evG f x).real ρ = .agg ⟨typC t⟩) (hv : ∀ ρ, (evG f v).real ρ = .agg ⟨spotC s⟩) (ht : smT t) (hl : ks.length ≤ 1000000) (hn : findK ks t = none) (hg : PW.Now B S.W g) (h : KeyN S.W g ks)
    (hK : ∀ W' : PW, PW.Ex S.W W' (some g) → PW.Now B W' g → KeyN W' g (ks ++ [(t, s)]) → K (.v undef) ⟨S.σ, S.O, W'⟩) : RawVC Tryz.prog B o f prot S K := by
  obtain ⟨D, hD1, hD2, hD3, hD⟩ := h
  obtain ⟨n1, n2, n3⟩ := key_put s ht hn hD2 hD3 hD
  exact raw_put ho keyed_t Tryz.underlying132 hm hx hv (keyOf_t t ht) (R := spotR) (d := spotD s) (ps := []) rfl (by unfold maxLen; omega) hg hD1 fun W' x1 x2 x3 => hK W' x1 x2 ⟨_, by rw [List.length_append]; exact x3, n1, n2, n3⟩
end
structure IxSt where
  i : Nat
theorem once_no1 {c : ConfS} (h : ¬ (c.spaces.map (·.name)).Nodup) : onceS c = false := by unfold onceS; rw [decide_eq_false h]; rfl
theorem once_no2 {c : ConfS} (h : ¬ ((keysS c).map (·.1)).Nodup) : onceS c = false := by unfold onceS; rw [decide_eq_false h, Bool.and_false, Bool.false_and]
theorem once_no3 {c : ConfS} (h : ¬ (c.scopes.map (·.name)).Nodup) : onceS c = false := by unfold onceS; rw [decide_eq_false h, Bool.and_false]
theorem once_yes {c : ConfS} (h1 : (c.spaces.map (·.name)).Nodup) (h2 : ((keysS c).map (·.1)).Nodup) (h3 : (c.scopes.map (·.name)).Nodup) : onceS c = true := by unfold onceS; rw [decide_eq_true h1, decide_eq_true h2, decide_eq_true h3]; rfl
theorem take_map_pre {α β : Type} (f : α → β) {l : List α} {i : Nat} {x : α} (h : l[i]? = some x) : (l.take i).map f ++ [f x] <+: l.map f := by
  have e : (l.take (i + 1)).map f = (l.take i).map f ++ [f x] := by rw [List.take_add_one, h, List.map_append]; rfl
  rw [← e, List.map_take]
  exact List.take_prefix _ _
set_option maxRecDepth 20000 in
set_option maxHeartbeats 16000000 in
theorem newIndex_x : NewOK := by
  intro c cells W hS h
  obtain ⟨sv, kv, rfl, h1, h2⟩ := h
  obtain ⟨A0, c0, rfl, _, _⟩ := h1.form
  obtain ⟨A1, c1, rfl, _, _⟩ := h2.form
  obtain ⟨hsm, hsc, hN, hrn, hkn⟩ := hS
  obtain ⟨R, hR⟩ : ∃ R, onceS c = R := ⟨_, rfl⟩
  have hno1 := fun h => hR.symm.trans (once_no1 (c := c) h)
  have hno2 := fun h => hR.symm.trans (once_no2 (c := c) h)
  have hno3 := fun h => hR.symm.trans (once_no3 (c := c) h)
  have hyes := fun a b d => hR.symm.trans (once_yes (c := c) a b d)
  rw [hR]
  refine pureX hmix Tryz.func41 r41 (by kernel_rfl) [.agg ⟨[.slice A0 c.spaces.length c0, .slice A1 c.scopes.length c1]⟩] rfl ?_
  refine raw_make rfl fun W1 g1 x1 n1 na1 m1 => ?_
  refine raw_make rfl fun W2 g2 x2 n2 na2 m2 => ?_
  have l2 : W.Le W2 := x1.le.trans x2.le
  have hne : g1 ≠ g2 := fun e => na2 (e ▸ n1.1)
  obtain ⟨n1, e1⟩ := x2.now n1 (by simp)
  have k1 : KeyN W2 g1 [] := ⟨.map [], ownsMap_same (m1 _ _) e1, tidy_empty, rfl, fun t _ => ⟨rfl, rfl⟩⟩
  have s2 : SeenN W2 g2 [] := ⟨.map [], m2 _ _, isMap_empty, fun _ => rfl⟩
  refine ⟨IxSt, fun t => [(24, .v (.int .i64 t.i))], fun _ => _, fun _ => [], fun t W' => t.i ≤ c.spaces.length ∧ PW.Now ⟨W, [], []⟩ W' g1 ∧ PW.Now ⟨W, [], []⟩ W' g2 ∧ KeyN W' g1 (spaceKeys 0 (c.spaces.take t.i)) ∧ SeenN W' g2 ((c.spaces.take t.i).map (·.name)) ∧ ((c.spaces.take t.i).map (·.name)).Nodup ∧ ((spaceKeys 0 (c.spaces.take t.i)).map (·.1)).Nodup, fun t => c.spaces.length - t.i, ⟨0⟩,
    all_sl ⟨rfl, trivial⟩, rfl, ole_refl _, ⟨Nat.zero_le _, n1, n2, k1, s2, List.nodup_nil, List.nodup_nil⟩, loopOK (fun _ => ⟨⟨trivial, rfl⟩, trivial⟩) (fun _ => rfl) (fun _ => rfl), ?_⟩
  rintro ⟨i⟩ W3 l3 ⟨hi, n1, n2, hk, hs, hd1, hd2⟩ fr
  dsimp only at hi hk hs hd1 hd2
  refine ⟨rfl, br_split (fun hq => ?_) (fun hq => ?_)⟩
  · have hq : (i : Int) < c.spaces.length := hq
    have inc := (i64_in ((i : Int) + 1) ⟨by omega, by omega⟩).symm
    obtain ⟨a0, rfl, sp, cs0, hsp, hc0, hR0, _, hr0⟩ := RL.at SpR.mono h1 (l2.trans l3) (j := (i : Int)) ⟨by omega, by omega⟩
    have hsp : c.spaces[i]? = some sp := hsp
    have hspm := List.mem_of_getElem? hsp
    have hrl := hrn sp hspm
    obtain ⟨sm1, sm2⟩ := hsm sp hspm
    obtain ⟨rv, rfl, hrels⟩ := hR0
    obtain ⟨A2, c2, rfl, _, _⟩ := hrels.form
    have htk : c.spaces.take (i + 1) = c.spaces.take i ++ [sp] := by rw [List.take_add_one, hsp]; rfl
    have hil : (c.spaces.take i).length = i := by rw [List.length_take]; omega
    have hpre := take_map_pre (·.name) hsp
    have hkk : spaceKeys 0 (c.spaces.take (i + 1)) = spaceKeys 0 (c.spaces.take i) ++ relKeys sp.name i 0 sp.rels := by rw [htk, spaceKeys_snoc, hil, Nat.zero_add]
    have hkpre : spaceKeys 0 (c.spaces.take i) ++ relKeys sp.name i 0 sp.rels <+: keysS c := by rw [← hkk]; exact spaceKeys_pre 0 _ _
    have hnn : ((c.spaces.take (i + 1)).map (·.name)) = (c.spaces.take i).map (·.name) ++ [sp.name] := by rw [htk, List.map_append]; rfl
    refine ⟨⟨by omega, hq⟩, _, rfl, [strV sp.name, .slice A2 sp.rels.length c2], rfl, Rds.o hr0, ?_⟩
    obtain ⟨b, hb⟩ : ∃ b, decide (sp.name ∈ (c.spaces.take i).map (·.name)) = b := ⟨_, rfl⟩
    refine raw_seen hb rfl rfl rfl sm1 n2.1 hs ?_
    cases b with
    | true =>
      refine ret_plain rfl fun W' _ => ⟨none, ?_, fun hh => ?_⟩
      · rw [hno1 (nodup_not hpre (of_decide_eq_true hb))]
      · rw [hno1 (nodup_not hpre (of_decide_eq_true hb))] at hh; cases hh
    | false =>
      have hb : sp.name ∉ (c.spaces.take i).map (·.name) := of_decide_eq_false hb
      refine raw_sput rfl rfl rfl rfl sm1 (by rw [List.length_map, hil]; omega) n2 hs fun W4 x4 n24 hs4 => ?_
      obtain ⟨n14, e4⟩ := x4.now n1 (fun e => hne (Option.some.inj e))
      have hk4 := hk.same e4
      rw [← hnn] at hs4
      refine ⟨IxSt, fun t => [(39, .v (.int .i64 t.i))], fun _ => _, fun _ => [], fun t W' => t.i ≤ sp.rels.length ∧ PW.Now ⟨W, [], []⟩ W' g1 ∧ PW.Now ⟨W, [], []⟩ W' g2 ∧ KeyN W' g1 (spaceKeys 0 (c.spaces.take i) ++ relKeys sp.name i 0 (sp.rels.take t.i)) ∧ SeenN W' g2 ((c.spaces.take (i + 1)).map (·.name)) ∧ ((spaceKeys 0 (c.spaces.take i) ++ relKeys sp.name i 0 (sp.rels.take t.i)).map (·.1)).Nodup, fun t => sp.rels.length - t.i, ⟨0⟩,
        all_sl ⟨rfl, trivial⟩, rfl, ole_refl _, ⟨Nat.zero_le _, n14, n24, by dsimp only; rw [List.take_zero, relKeys, List.append_nil]; exact hk4, hs4, by dsimp only; rw [List.take_zero, relKeys, List.append_nil]; exact hd2⟩, loopOK (fun _ => ⟨⟨trivial, rfl⟩, trivial⟩) (fun _ => rfl) (fun _ => rfl), ?_⟩
      rintro ⟨j⟩ W5 l5 ⟨hj, n1, n2, hk, hs, hd3⟩ fr2
      dsimp only at hj hk hd3
      refine ⟨rfl, br_split (fun hq2 => ?_) (fun hq2 => ?_)⟩
      · have hq2 : (j : Int) < sp.rels.length := hq2
        have inc2 := (i64_in ((j : Int) + 1) ⟨by omega, by omega⟩).symm
        obtain ⟨a2, rfl, r, cs2, hr, hc2, hR2, _, hr2⟩ := RL.at RelR.mono hrels (x4.le.trans l5) (j := (j : Int)) ⟨by omega, by omega⟩
        have hr : sp.rels[j]? = some r := hr
        have hrm := (sm2 r (List.mem_of_getElem? hr)).1
        obtain ⟨tv, nv, rfl, hT, hNv⟩ := hR2
        obtain ⟨A5, c5, rfl, _, _⟩ := hT.form
        obtain ⟨A6, c6, rfl, _, _⟩ := hNv.form
        have hst : smT ⟨sp.name, r.name⟩ := ⟨sm1, hrm⟩
        have hjl : (sp.rels.take j).length = j := by rw [List.length_take]; omega
        have hrk : relKeys sp.name i 0 (sp.rels.take (j + 1)) = relKeys sp.name i 0 (sp.rels.take j) ++ [(⟨sp.name, r.name⟩, (i, j))] := by
          rw [List.take_add_one, hr]
          show relKeys sp.name i 0 (sp.rels.take j ++ [r]) = _
          rw [relKeys_snoc, hjl, Nat.zero_add]
        obtain ⟨ks, hks⟩ : ∃ ks, spaceKeys 0 (c.spaces.take i) ++ relKeys sp.name i 0 (sp.rels.take j) = ks := ⟨_, rfl⟩
        have hks1 : spaceKeys 0 (c.spaces.take i) ++ relKeys sp.name i 0 (sp.rels.take (j + 1)) = ks ++ [(⟨sp.name, r.name⟩, (i, j))] := by rw [hrk, ← List.append_assoc, hks]
        have hkl : ks.length ≤ 1000000 := by
          rw [← hks, List.length_append, relKeys_len, hjl]
          have := spaceKeys_len 0 (c.spaces.take i) fun s hs => hrn s (List.mem_of_mem_take hs)
          rw [hil] at this
          omega
        have hpre2 : ks.map (·.1) ++ [(⟨sp.name, r.name⟩ : TypS)] <+: (keysS c).map (·.1) := by
          have e : ks.map (·.1) ++ [(⟨sp.name, r.name⟩ : TypS)] = (ks ++ [((⟨sp.name, r.name⟩ : TypS), ((i, j) : Spot))]).map (·.1) := by rw [List.map_append]; rfl
          rw [e, ← hks1]
          exact List.IsPrefix.map _ (((List.prefix_append_right_inj _).2 (relKeys_pre _ _ _ _ _)).trans hkpre)
        rw [hks] at hk hd3
        obtain ⟨fo, hfo⟩ : ∃ fo, findK ks ⟨sp.name, r.name⟩ = fo := ⟨_, rfl⟩
        have hlook := fun {o : Oper} {m x : Operand} {f : Fr} {prot : List Nat} {S : GS} {K : GV → GS → Prop} => raw_key (B := ⟨W, [], []⟩) (o := o) (m := m) (x := x) (g := g1) (ks := ks) (f := f) (prot := prot) (S := S) (K := K) hfo
        refine ⟨⟨by omega, hq2⟩, _, rfl, [strV r.name, .slice A5 r.types.length c5, .slice A6 r.nodes.length c6], rfl, Rds.o hr2, ?_⟩
        refine ⟨?_, ?_⟩
        all_goals
          refine hlook rfl rfl (fun _ => rfl) hst n1.1 hk ?_
          refine ⟨_, rfl, _, rfl, ?_⟩
          cases fo with
          | some p =>
            have hbad := nodup_not hpre2 (findK_mem (by rw [hfo]; rfl))
            refine ret_plain rfl fun W' _ => ⟨none, ?_, fun hh => ?_⟩
            · rw [hno2 hbad]
            · rw [hno2 hbad] at hh; cases hh
          | none =>
            refine raw_kput (s := (i, j)) (t := ⟨sp.name, r.name⟩) rfl rfl (fun _ => rfl) (fun _ => rfl) hst hkl hfo n1 hk fun W6 x6 n16 hk6 => ?_
            obtain ⟨n26, e6⟩ := x6.now n2 (fun e => hne (Option.some.inj e).symm)
            exact ⟨rfl, _, inc2, ⟨j + 1⟩, all_sl ⟨rfl, trivial⟩, rfl, ole_refl _, ⟨by dsimp only; omega, n16, n26, by dsimp only; rw [hks1]; exact hk6, hs.same e6, by dsimp only; rw [hks1, List.map_append]; exact nodup_snoc hd3 (findK_none hfo)⟩, by dsimp only; omega⟩
      · have hq2 : ¬ (j : Int) < sp.rels.length := hq2
        rw [show sp.rels.take j = sp.rels from List.take_of_length_le (by omega), ← hkk] at hk hd3
        exact ⟨rfl, _, inc, ⟨i + 1⟩, all_sl ⟨rfl, trivial⟩, rfl, ole_refl _, ⟨by dsimp only; omega, n1, n2, hk, hs, by dsimp only; rw [hnn]; exact nodup_snoc hd1 hb, hd3⟩, by dsimp only; omega⟩
  · have hq : ¬ (i : Int) < c.spaces.length := hq
    obtain rfl : i = c.spaces.length := by omega
    rw [List.take_length] at hk hs hd1 hd2
    have hk : KeyN W3 g1 (keysS c) := hk
    have hd2 : ((keysS c).map (·.1)).Nodup := hd2
    refine raw_make rfl fun W4 g3 x4 n3 na3 m3 => ?_
    have hne3 : g1 ≠ g3 := fun e => na3 (e ▸ n1.1)
    obtain ⟨n1, e4⟩ := x4.now n1 (by simp)
    have hk := hk.same e4
    have s3 : SeenN W4 g3 [] := ⟨.map [], m3 _ _, isMap_empty, fun _ => rfl⟩
    refine ⟨IxSt, fun t => [(73, .v (.int .i64 t.i))], fun _ => _, fun _ => [], fun t W' => t.i ≤ c.scopes.length ∧ PW.Now ⟨W, [], []⟩ W' g1 ∧ PW.Now ⟨W, [], []⟩ W' g3 ∧ KeyN W' g1 (keysS c) ∧ SeenN W' g3 ((c.scopes.take t.i).map (·.name)) ∧ ((c.scopes.take t.i).map (·.name)).Nodup, fun t => c.scopes.length - t.i, ⟨0⟩,
      all_sl ⟨rfl, trivial⟩, rfl, ole_refl _, ⟨Nat.zero_le _, n1, n3, hk, s3, List.nodup_nil⟩, loopOK (fun _ => ⟨⟨trivial, rfl⟩, trivial⟩) (fun _ => rfl) (fun _ => rfl), ?_⟩
    rintro ⟨i⟩ W5 l5 ⟨hi, n1, n3, hk, hs, hd3⟩ fr2
    dsimp only at hi hs hd3
    refine ⟨rfl, br_split (fun hq => ?_) (fun hq => ?_)⟩
    · have hq : (i : Int) < c.scopes.length := hq
      have inc := (i64_in ((i : Int) + 1) ⟨by omega, by omega⟩).symm
      obtain ⟨a5, rfl, s, hsc2, _, _, hr5⟩ := RP.at (f := scopeC) (sz := 4) (fun _ => rfl) h2 (l2.trans (l3.trans (x4.le.trans l5))) (j := (i : Int)) ⟨by omega, by omega⟩
      have hsc2 : c.scopes[i]? = some s := hsc2
      have sm1 := (hsc s (List.mem_of_getElem? hsc2)).1
      have hpre := take_map_pre (·.name) hsc2
      have hnn : ((c.scopes.take (i + 1)).map (·.name)) = (c.scopes.take i).map (·.name) ++ [s.name] := by rw [List.take_add_one, hsc2, List.map_append]; rfl
      have hil : (c.scopes.take i).length = i := by rw [List.length_take]; omega
      obtain ⟨n, ⟨osp, oid⟩, rl⟩ := s
      dsimp only at hpre hnn sm1
      refine ⟨⟨by omega, hq⟩, _, rfl, [strV n, strV osp, strV oid, strV rl], rfl, Rds.o hr5, ?_⟩
      obtain ⟨b, hb⟩ : ∃ b, decide (n ∈ (c.scopes.take i).map (·.name)) = b := ⟨_, rfl⟩
      refine raw_seen hb rfl rfl rfl sm1 n3.1 hs ?_
      cases b with
      | true =>
        have hbad := nodup_not hpre (of_decide_eq_true hb)
        refine ret_plain rfl fun W' _ => ⟨none, ?_, fun hh => ?_⟩
        · rw [hno3 hbad]
        · rw [hno3 hbad] at hh; cases hh
      | false =>
        have hb : n ∉ (c.scopes.take i).map (·.name) := of_decide_eq_false hb
        refine raw_sput rfl rfl rfl rfl sm1 (by rw [List.length_map, hil]; omega) n3 hs fun W6 x6 n36 hs6 => ?_
        obtain ⟨n16, e6⟩ := x6.now n1 (fun e => hne3 (Option.some.inj e))
        rw [← hnn] at hs6
        exact ⟨rfl, _, inc, ⟨i + 1⟩, all_sl ⟨rfl, trivial⟩, rfl, ole_refl _, ⟨by dsimp only; omega, n16, n36, hk.same e6, hs6, by dsimp only; rw [hnn]; exact nodup_snoc hd3 hb⟩, by dsimp only; omega⟩
    · have hq : ¬ (i : Int) < c.scopes.length := hq
      rw [show c.scopes.take i = c.scopes from List.take_of_length_le (by omega)] at hd3
      refine ret_lp (k := 1) (g := g1) rfl rfl rfl n1 fun a W' l' hF e hrd => ⟨some a, ?_, fun _ => ⟨a, rfl, _, _, g1, hrd, h1.mono SpR.mono (l2.trans (l3.trans (x4.le.trans (l5.trans l')))), h2.mono (l2.trans (l3.trans (x4.le.trans (l5.trans l')))), ?_⟩⟩
      · rw [hyes hd1 hd2 hd3]
      · obtain ⟨D, d1, _, d3, d4⟩ := hk
        exact ⟨hF, D, ownsMap_same d1 e, d3, d4⟩
end Go.Proofs.YtcgbcbdgjhnlaaaGreat
