/- The walk of the statement CrtSays: the law returns true for all arguments. -/
import Derived.Test.YtpamlngkhjnboaaDoorCrtRef
import Derived.Test.YtpamlngkhjnboaaDoorAs
namespace Go.Proofs.YtpamlngkhjnboaaDoor
open Go.RowKit

theorem below_q (w : World) (q : Nat) : Below w.heap.size w (w.drewN q) := below_drewN (Below.refl _ _) q
theorem rd_q {w : World} {A : Option Addr} {n : Nat} {L : List Int} (h : Rd w w.heap.size A n L) (q : Nat) : Rd (w.drewN q) w.heap.size A n L := h
theorem crt_says_bad (Ar Am : Option Addr) (nr nm cr cm : Nat) (r m : List Int) (w : World) (hg : Handle w) (hr : Rd w w.heap.size Ar nr r) (hm : Rd w w.heap.size Am nm m) (h : ¬ CrtOk r m) :
    Calls Tryd.prog 3 #[.slice Ar nr cr, .slice Am nm cm] w fun e w' => e = .returned (.bool true) ∧ Below w.heap.size w w' := by
  have hgd : Hid (Handle w) := hg
  have H := Lib.hid h
  clear hg h
  go_enter Tryd.func3, Tryd.ntmps3
  go_wp2_with fail
  refine (ref_crt_bad _ _ _ _ _ _ r m _ _ hr hm H.out).mono ?_
  rintro e w1 ⟨rfl, q, rfl⟩
  go_wp2_with fail
  refine (crt_solve_bad _ _ _ _ _ _ r m _ _ (rd_q hr q) (rd_q hm q) H.out).mono ?_
  rintro e w1 ⟨rfl, rfl⟩
  go_wp2_with fail
  refine (more (below_q w q) (c_Error_some _ _ _ (hgd.out.drewN q))).mono ?_
  rintro e w2 ⟨rfl, hb2⟩
  go_wp2
  go_ret
  exact ⟨rfl, hb2⟩
theorem crt_says_ok (Ar Am : Option Addr) (nr cr cm : Nat) (r m : List Int) (w : World) (hg : Handle w) (hr : Rd w w.heap.size Ar nr r) (hm : Rd w w.heap.size Am nr m) (h : CrtOk r m) :
    Calls Tryd.prog 3 #[.slice Ar nr cr, .slice Am nr cm] w fun e w' => e = .returned (.bool true) ∧ Below w.heap.size w w' := by
  have hgd : Hid (Handle w) := hg
  have H := Lib.hid h
  clear hg h
  go_enter Tryd.func3, Tryd.ntmps3
  go_wp2_with fail
  refine (ref_crt_any _ _ _ _ _ r m _ _ hr hm H.out).mono ?_
  rintro e w1 ⟨hp, q, rfl⟩
  rcases refP_of nr r m H.out.2.1 hm.1 hp with ⟨y, hy, rfl⟩ | ⟨hno, rfl⟩
  · clear hp
    have HY := Lib.hid hy
    clear hy
    go_wp2_with fail
    refine (crt_solve_any _ _ _ _ _ r m _ _ (rd_q hr q) (rd_q hm q) H.out).mono ?_
    rintro e w1 ⟨⟨z, hz, rfl⟩ | ⟨hno, rfl⟩, q2, rfl⟩
    · rw [(sol_iff H.out nr (by rw [hm.1]; omega) y HY.out z).1 hz]
      clear hz
      go_wp2_with fail
      refine (more (below_q w (q + q2)) (c_Error_nil _ _)).mono ?_
      rintro e w2 ⟨rfl, hb2⟩
      go_wp2
      go_ret
      exact ⟨rfl, hb2⟩
    · exact absurd HY.out (hno y)
  · clear hp
    have HN := Lib.hid hno
    clear hno
    go_wp2_with fail
    refine (crt_solve_any _ _ _ _ _ r m _ _ (rd_q hr q) (rd_q hm q) H.out).mono ?_
    rintro e w1 ⟨⟨z, hz, rfl⟩ | ⟨hno, rfl⟩, q2, rfl⟩
    · exact absurd hz (HN.out z)
    · clear hno
      go_wp2_with fail
      refine (more (below_q w (q + q2)) (c_Error_some _ _ _ (hgd.out.drewN (q + q2)))).mono ?_
      rintro e w2 ⟨rfl, hb2⟩
      go_wp2
      go_ret
      exact ⟨rfl, hb2⟩
theorem frame_CrtSays (Ar : Option Addr) (nr cr : Nat) (r : List Int) (Am : Option Addr) (nm cm : Nat) (m : List Int) (w : World)
    (hr : Rd w w.heap.size Ar nr r) (_ : nr ≤ cr ∧ cr ≤ 9223372036854775807) (_ : ∀ x ∈ r, Fits x) (hm : Rd w w.heap.size Am nm m) (_ : nm ≤ cm ∧ cm ≤ 9223372036854775807) (_ : ∀ x ∈ m, Fits x) (hg : Handle w) :
    Calls Tryd.prog 3 #[.slice Ar nr cr, .slice Am nm cm] w fun e w' => e = .returned (.bool true) ∧ Below w.heap.size w w' := by
  by_cases h : CrtOk r m
  · have e : nr = nm := by rw [← hr.1, ← hm.1]; exact h.2.1
    subst e
    exact crt_says_ok Ar Am nr cr cm r m w hg hr hm h
  · exact crt_says_bad Ar Am nr nm cr cm r m w hg hr hm h
end Go.Proofs.YtpamlngkhjnboaaDoor
