/- route.decode, route.Basic, walked at a header that was made of a name and a secret. -/
import Derived.Test.YtkhgmmejgikgnaaDoorRouC
import Derived.Test.YtkhgmmejgikgnaaDoorShelfR
import Derived.Lib.MapLaws
import Derived.Lib.TrimUEq
namespace Go.Proofs.YtkhgmmejgikgnaaDoor
open Go.RowKit

/-! ## strings.Map with the mapping 'other', of ASCII -/
def otherF (x : Int) : Int := if x = 43 then 45 else if x = 47 then 95 else if x = 45 ∨ x = 95 then 61 else x
theorem otherRun (x : Int) (w : World) : Calls Tryd.prog 121 #[.int .i32 x] w fun e w' => e = .returned (.int .i32 (otherF x)) ∧ w' = w := by
  go_enter Tryd.func121, Tryd.ntmps121
  go_wp2
  all_goals (go_ret; refine ⟨?_, rfl⟩; unfold otherF)
  all_goals (simp_all)
theorem asc_one {l : List UInt8} {c : UInt8} (h : c.toNat < 128) : Lib.decodeL (c :: l) = (c.toNat, 1) := by
  rw [Lib.decodeL_N]
  unfold Lib.decodeN
  rw [if_pos (by simpa using h)]
  simp
theorem other_byte {c : UInt8} (h : c.toNat < 128) : 0 ≤ otherF c.toNat ∧ otherF c.toNat ≤ 127 ∧ Lib.encodeRune (otherF c.toNat) = [decM c] := by
  have : ∀ c : UInt8, c.toNat < 128 → 0 ≤ otherF c.toNat ∧ otherF c.toNat ≤ 127 ∧ Lib.encodeRune (otherF c.toNat) = [decM c] := fun c =>
    byte_all (p := fun c => c.toNat < 128 → 0 ≤ otherF c.toNat ∧ otherF c.toNat ≤ 127 ∧ Lib.encodeRune (otherF c.toNat) = [decM c]) (by decide +kernel) c
  exact this c h
theorem map_asc : ∀ l : List UInt8, (∀ c ∈ l, c.toNat < 128) → Lib.mapD otherF l = l.map decM
  | [], _ => rfl
  | c :: r, h => by
    have hc := h c (List.mem_cons_self ..)
    obtain ⟨h1, _, h2⟩ := other_byte hc
    rw [Lib.mapD_step otherF (c :: r) (by simp), asc_one hc]
    dsimp only
    rw [if_pos h1, h2, show (c :: r).drop 1 = r from rfl, map_asc r fun x hx => h x (List.mem_cons_of_mem _ hx)]
    rfl
/-- utf8's tables stand, and are never written again. -/
def HU (W : PW) : Prop := W.A 0 ∧ W.A 1 ∧ Lib.Utf8Tabs 0 1 W.w
theorem HU.mono {W W' : PW} (h : HU W) (l : W.Le W') : HU W' := by
  obtain ⟨h1, h2, h3, h4⟩ := h
  have e1 := l.bl _ h1
  have e2 := l.bl _ h2
  refine ⟨l.al _ h1, l.al _ h2, fun c hc => ?_, fun i hi => ⟨?_, ?_⟩⟩
  · rw [← h3 c hc]; unfold World.cell?; rw [e1]
  · rw [← (h4 i hi).1]; unfold World.cell?; rw [e2]
  · rw [← (h4 i hi).2]; unfold World.cell?; rw [e2]
theorem map_x (l : List UInt8) (ha : ∀ c ∈ l, c.toNat < 128) (hl : l.length ≤ 1000000) (W : PW) (hU : HU W) : CallsX Tryd.prog 120 ⟨[.func (.func 121) #[] #[], strV l]⟩ [] W fun v _ => v = strV (l.map decM) := by
  have hsz : (⟨⟨l⟩⟩ : ByteArray).size = l.length := rfl
  have hc := Tryd.strings_Map_runes 121 #[] (enters_of Tryd.func121 (by kernel_rfl) rfl) otherF ⟨⟨l⟩⟩ W.w (by rw [hsz]; omega)
    (fun W x _ _ => (otherRun x W).mono fun _ _ ⟨h1, h2⟩ => ⟨h1, 0, h2⟩) (fun x hx => by unfold otherF; repeat' split
                                                                                         all_goals omega) hU.2.2
  have : (⟨(Lib.mapD otherF (⟨⟨l⟩⟩ : ByteArray).data.toList).toArray⟩ : ByteArray) = ⟨⟨l.map decM⟩⟩ := by
    rw [← map_asc l ha]
  rw [this] at hc
  exact CallsX.of_at ⟨_, Tryd.func120, by kernel_rfl, by kernel_rfl⟩ hc
theorem trim_x (s : List UInt8) (hs : s.length ≤ 1000000) (W : PW) : CallsX Tryd.prog 118 ⟨[strV (encS s), strV [61]]⟩ [] W fun v _ => v = strV ((enc4 s).map encM) := by
  have hl := encS_len s
  have hsz : (⟨⟨encS s⟩⟩ : ByteArray).size = (encS s).length := rfl
  have hc := Tryd.strings_TrimRight_one ⟨⟨encS s⟩⟩ 61 (by decide) W.w (by rw [hsz]; omega)
  have : (⟨(Lib.trimRightB (⟨⟨encS s⟩⟩ : ByteArray).data.toList 61).toArray⟩ : ByteArray) = ⟨⟨(enc4 s).map encM⟩⟩ := by rw [← trim_enc s]
  rw [this] at hc
  exact CallsX.of_same ⟨_, Tryd.func118, by kernel_rfl, by kernel_rfl⟩ hc

theorem decode_x (u : List UInt8) (hu : u.length ≤ 100000) (W : PW) (hU : HU W) : CallsX Tryd.prog 79 ⟨[strV (encS u)]⟩ [] W fun v _ => v = .tuple ⟨[strV u, .bool true]⟩ := by
  refine pureX hmix Tryd.func79 r79 (by kernel_rfl) [strV (encS u)] rfl ?_
  refine call_v rfl (fun W' _ => trim_x u (by omega) W') (fun W1 v W2 l1 l2 hv => ?_)
  subst hv
  have hp := pad_le u
  have hel := encS_len u
  have h4l := (enc4_len u).1
  have hS : (encS u).length = ((enc4 u).map encM).length + padN (enc4 u).length := by unfold encS; rw [List.length_append, List.length_replicate]
  have hml : ((enc4 u).map encM).length = (enc4 u).length := List.length_map _
  have hum := unmap u
  have hno := map_no u
  have hde := dec_enc u 0 []
  obtain ⟨k, hk⟩ : ∃ k, padN (enc4 u).length = k := ⟨_, rfl⟩
  obtain ⟨m, hm⟩ : ∃ m, (enc4 u).map encM = m := ⟨_, rfl⟩
  obtain ⟨e, he⟩ : ∃ e, encS u = e := ⟨_, rfl⟩
  rw [hk] at hp hS
  rw [hm] at hS hml hum hno ⊢
  rw [he] at hp hS hel ⊢
  refine ⟨rfl, by decide, rfl, br_nsplit (fun hq => ?_) (fun _ => ?_)⟩
  · have hq : ¬ ((e.length % 4 : Nat) : Int) = 0 := hq
    omega
  refine ⟨rfl, (k : Int), (by show (k : Int) = IntKind.i64.wrap ((e.length : Int) - m.length); rw [i64_in _ ⟨by omega, by omega⟩]; omega), rfl, ?_⟩
  refine br_no (by show ¬ (2 : Int) < (k : Int); omega) ?_
  refine call_v rfl (fun W' lw => map_x m (fun c hc => (hno c hc).2) (by omega) W' (hU.mono (l1.trans (l2.trans lw)))) (fun W3 v W4 l3 l4 hv => ?_)
  subst hv
  rw [hum]
  refine call_v rfl (fun W' lw => bdec_x (enc4 u) (by omega) W') (fun W5 v W6 l5 l6 hv => ?_)
  rw [hde] at hv
  obtain ⟨x, rfl, A, c, rfl, h1, h2, h3⟩ := hv
  refine ⟨_, rfl, _, rfl, u, rfl, fun hn => .inl (let ⟨a, e, hr⟩ := h3 hn; ⟨a, e, hr.o⟩), ?_⟩
  exact ⟨rfl, ret_plain rfl fun _ _ => rfl⟩
end Go.Proofs.YtkhgmmejgikgnaaDoor
