/- Layer 35 (reply): what a status is called. -/
import Derived.Test.YtkhgmmejgikgnaaDoorQueF
import Derived.Test.YtkhgmmejgikgnaaDoorCodeRR
namespace Go.Proofs.YtkhgmmejgikgnaaDoor
open Go.RowKit

def reasonsL : List (Int × List UInt8) := [(200, [79, 75]), (302, [70, 111, 117, 110, 100]), (400, [66, 97, 100, 32, 82, 101, 113, 117, 101, 115, 116]), (401, [85, 110, 97, 117, 116, 104, 111, 114, 105, 122, 101, 100]), (403, [70, 111, 114, 98, 105, 100, 100, 101, 110]), (404, [78, 111, 116, 32, 70, 111, 117, 110, 100]), (405, [77, 101, 116, 104, 111, 100, 32, 78, 111, 116, 32, 65, 108, 108, 111, 119, 101, 100]), (409, [67, 111, 110, 102, 108, 105, 99, 116]), (412, [80, 114, 101, 99, 111, 110, 100, 105, 116, 105, 111, 110, 32, 70, 97, 105, 108, 101, 100]), (413, [67, 111, 110, 116, 101, 110, 116, 32, 84, 111, 111, 32, 76, 97, 114, 103, 101]), (500, [73, 110, 116, 101, 114, 110, 97, 108, 32, 83, 101, 114, 118, 101, 114, 32, 69, 114, 114, 111, 114]), (503, [83, 101, 114, 118, 105, 99, 101, 32, 85, 110, 97, 118, 97, 105, 108, 97, 98, 108, 101]), (507, [73, 110, 115, 117, 102, 102, 105, 99, 105, 101, 110, 116, 32, 83, 116, 111, 114, 97, 103, 101])]
def reasonF : List (Int × List UInt8) → Int → List UInt8
  | [], _ => [85, 110, 107, 110, 111, 119, 110]
  | (n, t) :: r, s => if s = n then t else reasonF r s
def reasonS (s : Int) : List UInt8 := reasonF reasonsL s
theorem reasonF_hit {n s : Int} {t : List UInt8} {r : List (Int × List UInt8)} (h : s = n) : reasonF ((n, t) :: r) s = t := if_pos h
theorem reasonF_miss {n s : Int} {t : List UInt8} {r : List (Int × List UInt8)} (h : ¬ s = n) : reasonF ((n, t) :: r) s = reasonF r s := if_neg h
set_option maxHeartbeats 4000000 in
theorem reason_x (s : Int) (W : PW) : CallsX Tryd.prog 70 ⟨[.int .i64 s]⟩ [] W fun v _ => v = strV (reasonS s) := by
  refine pureX hmix Tryd.func70 r70 (by kernel_rfl) [.int .i64 s] rfl ?_
  refine ⟨rfl, br_split (fun h => ?_) (fun h0 => ?_)⟩
  · exact ret_plain rfl fun _ _ => by subst h; rfl
  have h0 : ¬ s = 200 := h0
  refine ⟨rfl, br_split (fun h => ?_) (fun h1 => ?_)⟩
  · exact ret_plain rfl fun _ _ => by subst h; rfl
  have h1 : ¬ s = 302 := h1
  refine ⟨rfl, br_split (fun h => ?_) (fun h2 => ?_)⟩
  · exact ret_plain rfl fun _ _ => by subst h; rfl
  have h2 : ¬ s = 400 := h2
  refine ⟨rfl, br_split (fun h => ?_) (fun h3 => ?_)⟩
  · exact ret_plain rfl fun _ _ => by subst h; rfl
  have h3 : ¬ s = 401 := h3
  refine ⟨rfl, br_split (fun h => ?_) (fun h4 => ?_)⟩
  · exact ret_plain rfl fun _ _ => by subst h; rfl
  have h4 : ¬ s = 403 := h4
  refine ⟨rfl, br_split (fun h => ?_) (fun h5 => ?_)⟩
  · exact ret_plain rfl fun _ _ => by subst h; rfl
  have h5 : ¬ s = 404 := h5
  refine ⟨rfl, br_split (fun h => ?_) (fun h6 => ?_)⟩
  · exact ret_plain rfl fun _ _ => by subst h; rfl
  have h6 : ¬ s = 405 := h6
  refine ⟨rfl, br_split (fun h => ?_) (fun h7 => ?_)⟩
  · exact ret_plain rfl fun _ _ => by subst h; rfl
  have h7 : ¬ s = 409 := h7
  refine ⟨rfl, br_split (fun h => ?_) (fun h8 => ?_)⟩
  · exact ret_plain rfl fun _ _ => by subst h; rfl
  have h8 : ¬ s = 412 := h8
  refine ⟨rfl, br_split (fun h => ?_) (fun h9 => ?_)⟩
  · exact ret_plain rfl fun _ _ => by subst h; rfl
  have h9 : ¬ s = 413 := h9
  refine ⟨rfl, br_split (fun h => ?_) (fun h10 => ?_)⟩
  · exact ret_plain rfl fun _ _ => by subst h; rfl
  have h10 : ¬ s = 500 := h10
  refine ⟨rfl, br_split (fun h => ?_) (fun h11 => ?_)⟩
  · exact ret_plain rfl fun _ _ => by subst h; rfl
  have h11 : ¬ s = 503 := h11
  refine ⟨rfl, br_split (fun h => ?_) (fun h12 => ?_)⟩
  · exact ret_plain rfl fun _ _ => by subst h; rfl
  have h12 : ¬ s = 507 := h12
  refine ret_plain rfl fun _ _ => ?_
  unfold reasonS reasonsL
  rw [reasonF_miss h0, reasonF_miss h1, reasonF_miss h2, reasonF_miss h3, reasonF_miss h4, reasonF_miss h5, reasonF_miss h6, reasonF_miss h7, reasonF_miss h8, reasonF_miss h9, reasonF_miss h10, reasonF_miss h11, reasonF_miss h12]
  rfl
end Go.Proofs.YtkhgmmejgikgnaaDoor
