/- The walk of the statement CrtSun: the law returns true for all arguments. -/
import Derived.Test.YtpamlngkhjnboaaCrt
import Derived.BigQuiet
import Derived.Deep.QuietTactic
namespace Go.Proofs.Ytpamlngkhjnboaa
open Go.RowKit

section
variable (Ar Am : Option Addr) (nr nm cr cm : Nat) (r m : List Int) (other : Int) (w : World)
theorem sun_bad (hr : Rd w w.heap.size Ar nr r) (hm : Rd w w.heap.size Am nm m) (h : ¬ CrtOk r m) :
    Calls Try.prog 4 #[.slice Ar nr cr, .slice Am nm cm, .int .i64 other] w fun e w' => e = .returned (.bool true) ∧ Below w.heap.size w w' := by
  have H := Lib.hid h
  clear h
  go_enter Try.func4, Try.ntmps4
  go_wp2_with fail
  refine (c_crtFact _).mono ?_
  rintro e w1 ⟨rfl, hb1⟩
  go_wp2_with fail
  refine (crt_solve_bad _ _ _ _ _ _ r m _ _ (hr.below hb1) (hm.below hb1) H.out).mono ?_
  rintro e w2 ⟨rfl, rfl⟩
  go_wp2
  go_ret
  exact ⟨rfl, hb1⟩

theorem sun_facts (h : CrtOk r m) {k : Nat} (hk : k < m.length) {y : Int} (hy : Sol r m m.length y) :
    1 ≤ nth m k ∧ (y % (stp m m.length : Int)) % nth m k = nth r k ∧ (stp m m.length : Int) % nth m k = 0 := by
  obtain ⟨g1, g2, g3, g4⟩ := h.2.2 k hk
  have hs : Sol r m m.length (y % (stp m m.length : Int)) := (sol_iff h _ (Nat.le_refl _) y hy _).2 (Int.emod_emod _ _)
  refine ⟨g1, hs k hk, ?_⟩
  have := dvd_stp m hk
  have e : ((nth m k).toNat : Int) = nth m k := by omega
  rw [← e]
  exact Int.emod_eq_zero_of_dvd (Int.ofNat_dvd.2 this)

set_option maxHeartbeats 1000000 in
theorem sun_ok (hr : Rd w w.heap.size Ar nr r) (hm : Rd w w.heap.size Am nr m) (h : CrtOk r m) :
    Calls Try.prog 4 #[.slice Ar nr cr, .slice Am nr cm, .int .i64 other] w fun e w' => e = .returned (.bool true) ∧ Below w.heap.size w w' := by
  have hlm := Lib.hid hm.1
  have hn : nr ≤ 5 := by rw [← hlm.out]; exact h.1
  have H := Lib.hid h
  clear h
  go_enter Try.func4, Try.ntmps4
  go_wp2_with fail
  refine (c_crtFact _).mono ?_
  rintro e w1 ⟨rfl, hb1⟩
  go_wp2_with fail
  refine (crt_solve_any _ _ _ _ _ r m _ _ (hr.below hb1) (hm.below hb1) H.out).mono ?_
  rintro e w2 ⟨⟨y, hy, rfl⟩ | ⟨hno, rfl⟩, q, rfl⟩
  · have HY := Lib.hid hy
    clear hy
    obtain ⟨s1, s2⟩ := stp_bd H.out nr (by rw [hlm.out]; omega)
    have HF : Hid (∀ k, k < nr → 1 ≤ nth m k ∧ (y % (stp m nr : Int)) % nth m k = nth r k ∧ (stp m nr : Int) % nth m k = 0) := by
      intro k hk
      have hl := hlm.out
      have hy := HY.out
      rw [← hl] at hk hy ⊢
      exact sun_facts r m H.out hk hy
    have HE : Hid (∀ z, Sol r m nr z → z % (stp m nr : Int) = y % (stp m nr : Int)) := fun z hz => (sol_iff H.out nr (by rw [hlm.out]; omega) y HY.out z).1 hz
    have x1 : 0 ≤ y % (stp m nr : Int) := Int.emod_nonneg _ (by omega)
    have x2 : y % (stp m nr : Int) < (stp m nr : Int) := Int.emod_lt_of_pos _ (by omega)
    obtain ⟨S, hS⟩ : ∃ S, S = stp m nr := ⟨_, rfl⟩
    rw [← hS] at s1 s2 x1 x2 HF HE ⊢
    obtain ⟨x, hx⟩ : ∃ x, x = y % (S : Int) := ⟨_, rfl⟩
    rw [← hx] at x1 x2 HF HE ⊢
    have i1 : inB x 0 (S - 1) = true := by unfold inB; simp; omega
    clear hx hS
    go_wp2_with (go_at_call 12; refine (c_in _ _ _ _).mono ?_; rintro e w' ⟨rfl, rfl⟩)
    go_loopw [11, 12] (fun u i wr => ∃ (k : Nat) (c : Bool), k ≤ nr ∧ i = .int .i64 k ∧ u = .bool c ∧ Hid (c = true → (k = 0 ∨ 0 ≤ other) ∧ Sol r m k other) ∧ ∃ q', wr = w1.drewN q') (fun _ i _ => nr - (intOf i).toNat)
    case atStart => exact ⟨0, true, Nat.zero_le _, rfl, rfl, fun _ => ⟨.inl rfl, fun i hi => absurd hi (by omega)⟩, _, rfl⟩
    case round =>
      obtain ⟨k, c, hk, rfl, rfl, HC, q', rfl⟩ := hrel
      by_cases hlt : k < nr
      · obtain ⟨b, off, rfl, hc⟩ := (hr.below hb1).at_ hlt
        obtain ⟨b', off', rfl, hc'⟩ := (hm.below hb1).at_ hlt
        obtain ⟨f1, f2, f3⟩ := HF.out k hlt
        obtain ⟨md, hmd⟩ : ∃ md, md = nth m k := ⟨_, rfl⟩
        obtain ⟨rk, hrk⟩ : ∃ rk, rk = nth r k := ⟨_, rfl⟩
        rw [← hmd] at hc' f1 f2 f3
        rw [← hrk] at hc f2
        have f2' : (x % md != rk) = false := by simp [f2]
        have f3' : ((S : Int) % md != 0) = false := by simp [f3]
        have hmd' := Lib.hid hmd
        have hrk' := Lib.hid hrk
        clear hmd hrk f2 f3
        have hz : ¬ md = 0 := by omega
        have m1 := Int.emod_nonneg x hz
        have m2 := Int.emod_lt_of_pos x (show 0 < md by omega)
        have m3 := Int.emod_nonneg (S : Int) hz
        have m4 := Int.emod_lt_of_pos (S : Int) (show 0 < md by omega)
        have k1 : x.tmod md = x % md := Int.tmod_eq_emod_of_nonneg x1
        have k2 : (S : Int).tmod md = (S : Int) % md := Int.tmod_eq_emod_of_nonneg (by omega)
        have hnext : Hid (c = true → 0 ≤ other → other % md = rk → ((k + 1 = 0 ∨ 0 ≤ other) ∧ Sol r m (k + 1) other)) := by
          intro h1 h2 h3
          refine ⟨.inr h2, (sol_succ r m k other).2 ⟨(HC.out h1).2, ?_⟩⟩
          rw [← hmd'.out, ← hrk'.out]; exact h3
        cases c
        · go_wp2
          go_quiet (fail)
          go_wp2
          go_quiet (fail)
          go_wp2
          go_roundw
          case rel => exact ⟨k + 1, false, by omega, by go_num, rfl, (fun h => by cases h), _, rfl⟩
          case measure => simp [intOf]; omega
        · by_cases ho : 0 ≤ other
          · by_cases ht : other % md = rk
            · have ht' : (other % md == rk) = true := by simp [ht]
              have HT := Lib.hid ht
              clear ht
              go_wp2
              go_quiet (fail)
              go_wp2
              go_quiet (fail)
              go_wp2
              go_roundw
              case rel => exact ⟨k + 1, true, by omega, by go_num, rfl, (fun _ => hnext.out trivial ho HT.out), _, rfl⟩
              case measure => simp [intOf]; omega
            · have ht' : (other % md == rk) = false := by simp [ht]
              have HT := Lib.hid ht
              clear ht
              go_wp2
              go_quiet (fail)
              go_wp2
              go_quiet (fail)
              go_wp2
              go_roundw
              case rel => exact ⟨k + 1, false, by omega, by go_num, rfl, (fun h => by cases h), _, rfl⟩
              case measure => simp [intOf]; omega
          · have ho' : decide (0 ≤ other) = false := by simp; omega
            go_wp2
            go_quiet (fail)
            go_wp2
            go_quiet (fail)
            go_wp2
            go_roundw
            case rel => exact ⟨k + 1, false, by omega, by go_num, rfl, (fun h => by cases h), _, rfl⟩
            case measure => simp [intOf]; omega
      · obtain rfl : k = nr := by omega
        cases c
        · go_wp2
          go_ret
          exact ⟨rfl, below_drewN hb1 _⟩
        · by_cases ho : 0 ≤ other
          · have he := HE.out other (HC.out rfl).2
            have he' : (other % (S : Int) == x) = true := by simp [he]
            have HE' := Lib.hid he
            clear he
            go_wp2
            go_ret
            exact ⟨rfl, below_drewN hb1 _⟩
          · go_wp2
            go_ret
            exact ⟨rfl, below_drewN hb1 _⟩
  · go_wp2
    go_ret
    exact ⟨rfl, below_drewN hb1 q⟩
end
theorem frame_CrtSun (Ar : Option Addr) (nr cr : Nat) (r : List Int) (Am : Option Addr) (nm cm : Nat) (m : List Int) (other : Int) (w : World)
    (hr : Rd w w.heap.size Ar nr r) (_ : nr ≤ 9223372036854775807) (_ : ∀ x ∈ r, Fits x) (hm : Rd w w.heap.size Am nm m) (_ : nm ≤ 9223372036854775807) (_ : ∀ x ∈ m, Fits x) (_ : Fits other) :
    Calls Try.prog 4 #[.slice Ar nr cr, .slice Am nm cm, .int .i64 other] w fun e w' => e = .returned (.bool true) ∧ Below w.heap.size w w' := by
  by_cases h : CrtOk r m
  · have e : nr = nm := by rw [← hr.1, ← hm.1]; exact h.2.1
    subst e
    exact sun_ok Ar Am nr cr cm r m other w hr hm h
  · exact sun_bad Ar Am nr nm cr cm r m other w hr hm h
end Go.Proofs.Ytpamlngkhjnboaa
