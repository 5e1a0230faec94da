/- The contract of the law's closed fact nttFact. -/
import Derived.Test.YtmicgjpelikjiaaNtt
import Derived.Test.YtmicgjpelikjiaaNttLaw
namespace Go.Proofs.Ytmicgjpelikjiaa
open Go.RowKit

/-- A built slice of eight integers. -/
theorem rd_eight (w : World) (a0 a1 a2 a3 a4 a5 a6 a7 : Int) :
    Rd (w.alloc (.cells #[.int .i64 a0, .int .i64 a1, .int .i64 a2, .int .i64 a3, .int .i64 a4, .int .i64 a5, .int .i64 a6, .int .i64 a7] 3)) (w.heap.size + 1) (some ⟨w.heap.size, 0, none⟩) 8 [a0, a1, a2, a3, a4, a5, a6, a7] := by
  have := (own_new w [a0, a1, a2, a3, a4, a5, a6, a7] 8 rfl (by omega)).rd
  simpa using this
theorem eight_one : Eight [1, 1, 0, 0, 0, 0, 0, 0] := ⟨rfl, fun k hk => by
  match k, hk with
  | 0, _ => decide
  | 1, _ => decide
  | 2, _ => decide
  | 3, _ => decide
  | 4, _ => decide
  | 5, _ => decide
  | 6, _ => decide
  | 7, _ => decide⟩
theorem eight_two : Eight [8, 0, 0, 0, 0, 0, 0, 0] := ⟨rfl, fun k hk => by
  match k, hk with
  | 0, _ => decide
  | 1, _ => decide
  | 2, _ => decide
  | 3, _ => decide
  | 4, _ => decide
  | 5, _ => decide
  | 6, _ => decide
  | 7, _ => decide⟩
theorem fact_there : turnL 64 1 [1, 1, 0, 0, 0, 0, 0, 0] = [2, 65, 242, 5, 0, 194, 17, 254] := by decide +kernel
theorem fact_back : turnL 253 225 [8, 0, 0, 0, 0, 0, 0, 0] = [1, 1, 1, 1, 1, 1, 1, 1] := by decide +kernel
set_option maxHeartbeats 1000000 in
theorem c_nttFact (w : World) : Calls Try.prog 9 #[] w fun e w' => e = .returned (.bool true) ∧ Below w.heap.size w w' := by
  have r1 := Lib.hid (rd_eight w 1 1 0 0 0 0 0 0)
  go_enter Try.func9, Try.ntmps9
  go_wp2_with fail
  refine (c_There_ok _ _ _ _ _ _ r1.out (by simp) eight_one).mono ?_
  rintro e w1 ⟨g, rfl, hown1, hb1⟩
  have r2 := Lib.hid (rd_eight w1 8 0 0 0 0 0 0 0)
  go_wp2_with fail
  refine (c_Back_ok _ _ _ _ _ _ r2.out (by simp) eight_two).mono ?_
  rintro e w2 ⟨g', rfl, hown2, hb2⟩
  rw [fact_there] at hown1
  rw [fact_back] at hown2
  have o1 : Own w2 (w.alloc (.cells #[.int .i64 1, .int .i64 1, .int .i64 0, .int .i64 0, .int .i64 0, .int .i64 0, .int .i64 0, .int .i64 0] 3)).heap.size (some ⟨g, 0, none⟩) 8 8 [2, 65, 242, 5, 0, 194, 17, 254] := (hown1.alloc _).keep hb2
  have c0 : w2.cell? ⟨g, 0, none⟩ = some (.int .i64 2) := o1.cell (j := 0) (by omega)
  have c1 : w2.cell? ⟨g, 1, none⟩ = some (.int .i64 65) := o1.cell (j := 1) (by omega)
  have c2 : w2.cell? ⟨g, 2, none⟩ = some (.int .i64 242) := o1.cell (j := 2) (by omega)
  have c4 : w2.cell? ⟨g, 4, none⟩ = some (.int .i64 0) := o1.cell (j := 4) (by omega)
  have HB1 : Hid (Below w.heap.size w w1) := by
    have := (Below.refl w.heap.size w).alloc (Nat.le_refl _) (.cells #[.int .i64 1, .int .i64 1, .int .i64 0, .int .i64 0, .int .i64 0, .int .i64 0, .int .i64 0, .int .i64 0] 3)
    exact this.trans (hb1.mono (by simp))
  have HB2 : Hid (Below w.heap.size w w2) := by
    have h1 := HB1.out
    have := h1.alloc h1.size (.cells #[.int .i64 8, .int .i64 0, .int .i64 0, .int .i64 0, .int .i64 0, .int .i64 0, .int .i64 0, .int .i64 0] 3)
    exact this.trans (hb2.mono (by have := h1.size; simp; omega))
  have r3 := Lib.hid (rd_eight w2 1 1 1 1 1 1 1 1)
  have r4 := Lib.hid ((hown2.alloc (.cells #[.int .i64 1, .int .i64 1, .int .i64 1, .int .i64 1, .int .i64 1, .int .i64 1, .int .i64 1, .int .i64 1] 3)).rd)
  clear hb1 hb2 hown1 hown2 o1
  go_wp2_with fail
  refine (c_Ints _ _ _ _ _ _ _ _ _ _ _ r4.out r3.out (by omega)).mono ?_
  rintro e w3 ⟨rfl, q, rfl⟩
  rw [eqL_true rfl]
  go_wp2
  go_ret
  exact ⟨rfl, below_drewN (HB2.out.alloc HB2.out.size _) q⟩
end Go.Proofs.Ytmicgjpelikjiaa
