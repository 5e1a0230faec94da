/- The walk of the statement KaraFew: the law returns true for all arguments; and the contract of the closed fact karaFact. -/
import Derived.Test.YtmicgjpelikjiaaKaraC
import Derived.Test.YtmicgjpelikjiaaSame
namespace Go.Proofs.Ytmicgjpelikjiaa
open Go.RowKit

theorem rd_pair (w : World) (a b : Int) : Rd (w.alloc (.cells #[.int .i64 a, .int .i64 b] 3)) (w.heap.size + 1) (some ⟨w.heap.size, 0, none⟩) 2 [a, b] := by
  have := (own_new w [a, b] 2 rfl (by omega)).rd
  simpa using this
theorem rd_triple (w : World) (a b c : Int) : Rd (w.alloc (.cells #[.int .i64 a, .int .i64 b, .int .i64 c] 3)) (w.heap.size + 1) (some ⟨w.heap.size, 0, none⟩) 3 [a, b, c] := by
  have := (own_new w [a, b, c] 3 rfl (by omega)).rd
  simpa using this
theorem fact_kok : KOk [1, 2] [3, 4] := ⟨.inr (.inl rfl), rfl, by intro x hx; simp at hx; omega, by intro x hx; simp at hx; omega⟩
theorem fact_conv : convL 2 [1, 2] [3, 4] = [3, 10, 8] := by decide +kernel
theorem c_karaFact (w : World) : Calls Try.prog 16 #[] w fun e w' => e = .returned (.bool true) ∧ Below w.heap.size w w' := by
  have r1 : Hid (Rd ((w.alloc (.cells #[.int .i64 1, .int .i64 2] 3)).alloc (.cells #[.int .i64 3, .int .i64 4] 3)) (w.heap.size + 1) (some ⟨w.heap.size, 0, none⟩) 2 [1, 2]) := (rd_pair w 1 2).alloc (by simp) _
  have r2 : Hid (Rd ((w.alloc (.cells #[.int .i64 1, .int .i64 2] 3)).alloc (.cells #[.int .i64 3, .int .i64 4] 3)) (w.heap.size + 2) (some ⟨w.heap.size + 1, 0, none⟩) 2 [3, 4]) := by
    have := rd_pair (w.alloc (.cells #[.int .i64 1, .int .i64 2] 3)) 3 4
    simpa [Hid] using this
  have hb0 : Hid (Below w.heap.size w ((w.alloc (.cells #[.int .i64 1, .int .i64 2] 3)).alloc (.cells #[.int .i64 3, .int .i64 4] 3))) := by show Below _ _ _; go_grown
  go_enter Try.func16, Try.ntmps16
  go_wp2_with fail
  refine (c_KMul_ok _ _ 2 2 2 2 [1, 2] [3, 4] _ _ _ r1.out r2.out (by simp) (by simp) (by omega) (by omega) fact_kok).mono ?_
  rintro e w1 ⟨g, rfl, o, hb⟩
  have hb1 : Hid (Below w.heap.size w w1) := hb0.out.trans (hb.mono hb0.out.size)
  rw [show cnt (halv 2) = 3 by decide]
  rw [fact_conv] at o
  have r3 := Lib.hid (rd_triple w1 3 10 8)
  have r4 := Lib.hid ((o.alloc (.cells #[.int .i64 3, .int .i64 10, .int .i64 8] 3)).rd)
  clear hb o
  go_wp2_with fail
  refine (c_Ints _ _ _ _ _ _ _ _ _ _ _ r4.out r3.out (by omega)).mono ?_
  rintro e w3 ⟨rfl, q, rfl⟩
  rw [eqL_true rfl]
  go_wp2
  go_ret
  exact ⟨rfl, below_drewN (hb1.out.alloc hb1.out.size _) q⟩
theorem conv_comm (n : Nat) (L M : List Int) : convL n L M = convL n M L := mk_congr fun k _ => cv_comm _ _ k
section
variable (A A' : Option Addr) (n c n' c' : Nat) (L M : List Int) (w : World)
theorem few_bad (hL : Rd w w.heap.size A n L) (hM : Rd w w.heap.size A' n' M) (h : ¬ KOk L M) :
    Calls Try.prog 6 #[.slice A n c, .slice A' n' c'] w fun e w' => e = .returned (.bool true) ∧ Below w.heap.size w w' := by
  have H := Lib.hid h
  clear h
  go_enter Try.func6, Try.ntmps6
  go_wp2_with (first | (go_at_call 16; refine (c_karaFact _).mono ?_; rintro e w1 ⟨rfl, hb1⟩) | (go_at_call 17; refine (more (by assumption) (c_KMul_bad _ _ _ _ _ _ L M _ _ _ (hL.below (by assumption)) (hM.below (by assumption)) H.out)).mono ?_; rintro e w2 ⟨rfl, hb2⟩))
  go_ret
  exact ⟨rfl, by assumption⟩
theorem kok_symm {L M : List Int} (h : KOk L M) : KOk M L := ⟨by rw [h.2.1]; exact h.1, h.2.1.symm, h.2.2.2, h.2.2.1⟩
set_option maxHeartbeats 2000000 in
theorem few_ok (hL : Rd w w.heap.size A n L) (hM : Rd w w.heap.size A' n M) (hc : n ≤ c) (hc' : n ≤ c') (h : KOk L M) :
    Calls Try.prog 6 #[.slice A n c, .slice A' n c'] w fun e w' => e = .returned (.bool true) ∧ Below w.heap.size w w' := by
  have hp : Pow2 n := by rw [← hL.1]; exact h.1
  have hn16 : 1 ≤ n ∧ n ≤ 16 := by unfold Pow2 at hp; omega
  have hcnt : cnt (halv n) = 1 ∧ n = 1 ∨ cnt (halv n) ≠ 1 ∧ 1 < n ∧ cnt (halv n) < n * n := by
    rcases hp with rfl | rfl | rfl | rfl | rfl <;> decide
  have hb81 : cnt (halv n) ≤ 81 := by rcases hp with rfl | rfl | rfl | rfl | rfl <;> decide
  have HL := Lib.hid hL
  have HM := Lib.hid hM
  have H := Lib.hid h
  clear hL hM h hp
  obtain ⟨t, ht⟩ : ∃ t, t = cnt (halv n) := ⟨_, rfl⟩
  have HT := Lib.hid ht
  rw [← ht] at hcnt hb81
  clear ht
  have hq : (n : Int) * (n : Int) ≤ 256 := by
    have : (n : Int) * (n : Int) ≤ 16 * 16 := Int.mul_le_mul (by omega) (by omega) (by omega) (by omega)
    omega
  have hq0 : 0 ≤ (n : Int) * (n : Int) := Int.mul_nonneg (by omega) (by omega)
  go_enter Try.func6, Try.ntmps6
  go_wp2_with fail
  refine (c_karaFact _).mono ?_
  rintro e w1 ⟨rfl, hb1⟩
  go_wp2_with fail
  refine (c_KMul_ok _ _ _ _ _ _ L M _ _ _ (HL.out.below hb1) (HM.out.below hb1) hb1.size hb1.size hc hc' H.out).mono ?_
  rintro e w2 ⟨g1, rfl, o1, hb⟩
  have hb2 := hb1.trans (hb.mono hb1.size)
  have O1 := Lib.hid o1
  rw [← HT.out]
  clear o1 hb
  go_wp2_with fail
  refine (c_KMul_ok _ _ _ _ _ _ M L _ _ _ (HM.out.below hb2) (HL.out.below hb2) hb2.size hb2.size hc' hc (kok_symm H.out)).mono ?_
  rintro e w3 ⟨g2, rfl, o2, hb⟩
  have hb3 := hb2.trans (hb.mono hb2.size)
  rw [← HT.out]
  rw [conv_comm n M L] at o2
  have O2 := Lib.hid o2
  have O1' := Lib.hid (O1.out.keep hb)
  clear o2 hb O1
  go_wp2_with fail
  refine (c_Ints _ _ _ _ _ _ _ _ _ _ _ O1'.out.rd O2.out.rd (by omega)).mono ?_
  rintro e w4 ⟨rfl, q, rfl⟩
  rw [eqL_true rfl]
  have e1 : (((2 * n - 1 : Nat) : Int) != 2 * (n : Int) - 1) = false := by simp; omega
  rcases hcnt with ⟨h1, h2⟩ | ⟨h1, h2, h3⟩
  · have t1 : ((t : Int) == 1) = true := by simp; omega
    have t2 : ((n : Int) == 1) = true := by simp; omega
    clear h1 h2
    go_wp2
    go_ret
    exact ⟨rfl, below_drewN hb3 q⟩
  · have t1 : ((t : Int) == 1) = false := by simp; omega
    have h3' : (t : Int) < (n : Int) * (n : Int) := by rw [← Int.natCast_mul]; exact Int.ofNat_lt.2 h3
    clear h1 h3
    go_wp2
    go_ret
    exact ⟨ret_bool (by simp), below_drewN hb3 q⟩
end
theorem frame_KaraFew (A : Option Addr) (n c : Nat) (L : List Int) (A' : Option Addr) (n' c' : Nat) (M : List Int) (w : World) (hL : Rd w w.heap.size A n L) (hc : n ≤ c ∧ c ≤ 9223372036854775807) (_ : ∀ x ∈ L, Fits x)
    (hM : Rd w w.heap.size A' n' M) (hc' : n' ≤ c' ∧ c' ≤ 9223372036854775807) (_ : ∀ x ∈ M, Fits x) :
    Calls Try.prog 6 #[.slice A n c, .slice A' n' c'] w fun e w' => e = .returned (.bool true) ∧ Below w.heap.size w w' := by
  by_cases h : KOk L M
  · obtain rfl : n' = n := by rw [← hM.1, ← hL.1]; exact h.2.1
    exact few_ok A A' n' c c' L M w hL hM hc.1 hc'.1 h
  · exact few_bad A A' n c n' c' L M w hL hM h
end Go.Proofs.Ytmicgjpelikjiaa
