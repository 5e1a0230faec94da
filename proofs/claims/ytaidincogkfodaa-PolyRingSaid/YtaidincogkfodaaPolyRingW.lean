/- The walk of the statement PolyRing: the law returns true for all arguments. -/
import Derived.Test.YtaidincogkfodaaPolyR
namespace Go.Proofs.Ytaidincogkfodaa
open Go.RowKit

theorem c_PMul_any (A A' : Option Addr) (n n' c c' : Nat) (L M : List Int) (w : World) (hL : Rd w w.heap.size A n L) (hM : Rd w w.heap.size A' n' M) :
    Calls Try.prog 12 #[.slice A n c, .slice A' n' c'] w fun e w' => (∃ (A2 : Option Addr) (m c2 : Nat) (er : Value), e = .returned (.tuple #[.slice A2 m c2, er])) ∧ Below w.heap.size w w' := by
  by_cases h : POk L ∧ POk M
  · exact (c_PMul_ok A A' n n' c c' L M w hL hM h.1 h.2).mono fun e w' ⟨a, b, e', _, hb⟩ => ⟨⟨a, _, b, _, e'⟩, hb⟩
  · exact (c_PMul_bad A A' n n' c c' L M _ _ w hL hM h).mono fun e w' ⟨e', hb⟩ => ⟨⟨_, _, _, _, e'⟩, hb⟩
theorem c_PAdd_any (A A' : Option Addr) (n n' c c' : Nat) (L M : List Int) (w : World) (hL : Rd w w.heap.size A n L) (hM : Rd w w.heap.size A' n' M) :
    Calls Try.prog 13 #[.slice A n c, .slice A' n' c'] w fun e w' => (∃ (A2 : Option Addr) (m c2 : Nat) (er : Value), e = .returned (.tuple #[.slice A2 m c2, er])) ∧ Below w.heap.size w w' := by
  by_cases h : POk L ∧ POk M
  · exact (c_PAdd_ok A A' n n' c c' L M w hL hM h.1 h.2).mono fun e w' ⟨a, b, e', _, hb⟩ => ⟨⟨a, _, b, _, e'⟩, hb⟩
  · exact (c_PAdd_bad A A' n n' c c' L M _ _ w hL hM h).mono fun e w' ⟨e', hb⟩ => ⟨⟨_, _, _, _, e'⟩, hb⟩
theorem Rd.on {w w' : World} {A : Option Addr} {n : Nat} {L : List Int} (h : Rd w w.heap.size A n L) (hb : Below w.heap.size w w') : Rd w' w'.heap.size A n L := (h.below hb).more hb.size
section
variable (A1 A2 A3 : Option Addr) (n1 n2 n3 c1 c2 c3 : Nat) (f g h : List Int) (w : World)
set_option maxHeartbeats 1000000 in
theorem pring_one (h1 : Rd w w.heap.size A1 n1 f) (h2 : Rd w w.heap.size A2 n2 g) (h3 : Rd w w.heap.size A3 n3 h) (l1 : n1 ≤ 9223372036854775807) (hf : ¬ POk f) :
    Calls Try.prog 3 #[.slice A1 n1 c1, .slice A2 n2 c2, .slice A3 n3 c3] w fun e w' => e = .returned (.bool true) ∧ Below w.heap.size w w' := by
  have H1 := Lib.hid h1
  have H2 := Lib.hid h2
  have H3 := Lib.hid h3
  have HF := Lib.hid hf
  have hE := (factE_bad hf).2
  clear h1 h2 h3 hf
  go_enter Try.func3, Try.ntmps3
  go_wp2_with fail
  refine (c_polyFact _).mono ?_
  rintro e w1 ⟨rfl, hb1⟩
  go_wp2_with fail
  all_goals first
    | (go_ret; exact ⟨rfl, hb1⟩)
    | (refine (c_PMul_bad _ _ _ _ _ _ f g _ _ _ (H1.out.on hb1) (H2.out.on hb1) (fun e => HF.out e.1)).mono ?_
       rintro e w2 ⟨rfl, hb⟩
       have T2 := hb1.trans (hb.mono hb1.size)
       clear hb
       go_wp2_with fail
       refine (c_PMul_any _ _ _ _ _ _ g h _ (H2.out.on T2) (H3.out.on T2)).mono ?_
       rintro e w3 ⟨⟨A4, m4, c4, er4, rfl⟩, hb⟩
       have T3 := T2.trans (hb.mono T2.size)
       clear hb
       go_wp2_with fail
       refine (c_PAdd_any _ _ _ _ _ _ g h _ (H2.out.on T3) (H3.out.on T3)).mono ?_
       rintro e w4 ⟨⟨A5, m5, c5, er5, rfl⟩, hb⟩
       have T4 := T3.trans (hb.mono T3.size)
       clear hb
       go_wp2_with fail
       refine (c_RFactors _ _ _ f _ _ (H1.out.on T4) l1).mono ?_
       rintro e w' ⟨rfl, rfl⟩
       have hE' : (factE f != 0) = true := by simp [hE]
       go_wp2
       go_ret
       exact ⟨rfl, T4⟩)
set_option maxHeartbeats 1000000 in
theorem pring_two (h1 : Rd w w.heap.size A1 n1 f) (h2 : Rd w w.heap.size A2 n2 g) (h3 : Rd w w.heap.size A3 n3 h) (l1 : n1 ≤ 9223372036854775807) (l2 : n2 ≤ 9223372036854775807) (hf : POk f) (hg : ¬ POk g) :
    Calls Try.prog 3 #[.slice A1 n1 c1, .slice A2 n2 c2, .slice A3 n3 c3] w fun e w' => e = .returned (.bool true) ∧ Below w.heap.size w w' := by
  have H1 := Lib.hid h1
  have H2 := Lib.hid h2
  have H3 := Lib.hid h3
  have HF := Lib.hid hf
  have HG := Lib.hid hg
  have hE0 := factE_ok hf
  have hE := (factE_bad hg).2
  clear h1 h2 h3 hf hg
  go_enter Try.func3, Try.ntmps3
  go_wp2_with fail
  refine (c_polyFact _).mono ?_
  rintro e w1 ⟨rfl, hb1⟩
  go_wp2_with fail
  all_goals first
    | (go_ret; exact ⟨rfl, hb1⟩)
    | (refine (c_PMul_bad _ _ _ _ _ _ f g _ _ _ (H1.out.on hb1) (H2.out.on hb1) (fun e => HG.out e.2)).mono ?_
       rintro e w2 ⟨rfl, hb⟩
       have T2 := hb1.trans (hb.mono hb1.size)
       clear hb
       go_wp2_with fail
       refine (c_PMul_any _ _ _ _ _ _ g h _ (H2.out.on T2) (H3.out.on T2)).mono ?_
       rintro e w3 ⟨⟨A4, m4, c4, er4, rfl⟩, hb⟩
       have T3 := T2.trans (hb.mono T2.size)
       clear hb
       go_wp2_with fail
       refine (c_PAdd_any _ _ _ _ _ _ g h _ (H2.out.on T3) (H3.out.on T3)).mono ?_
       rintro e w4 ⟨⟨A5, m5, c5, er5, rfl⟩, hb⟩
       have T4 := T3.trans (hb.mono T3.size)
       clear hb
       go_wp2_with fail
       refine (c_RFactors _ _ _ f _ _ (H1.out.on T4) l1).mono ?_
       rintro e w' ⟨rfl, rfl⟩
       rw [hE0]
       go_wp2_with fail
       refine (c_RFactors _ _ _ g _ _ (H2.out.on T4) l2).mono ?_
       rintro e w' ⟨rfl, rfl⟩
       have hE' : (factE g != 0) = true := by simp [hE]
       go_wp2
       go_ret
       exact ⟨rfl, T4⟩)
set_option maxHeartbeats 1000000 in
theorem pring_three (h1 : Rd w w.heap.size A1 n1 f) (h2 : Rd w w.heap.size A2 n2 g) (h3 : Rd w w.heap.size A3 n3 h) (l1 : n1 ≤ 9223372036854775807) (l2 : n2 ≤ 9223372036854775807) (l3 : n3 ≤ 9223372036854775807) (hf : POk f) (hg : POk g) (hh : ¬ POk h) :
    Calls Try.prog 3 #[.slice A1 n1 c1, .slice A2 n2 c2, .slice A3 n3 c3] w fun e w' => e = .returned (.bool true) ∧ Below w.heap.size w w' := by
  have H1 := Lib.hid h1
  have H2 := Lib.hid h2
  have H3 := Lib.hid h3
  have HF := Lib.hid hf
  have HG := Lib.hid hg
  have HH := Lib.hid hh
  have hE0 := factE_ok hf
  have hE1 := factE_ok hg
  have hE := (factE_bad hh).2
  clear h1 h2 h3 hf hg hh
  go_enter Try.func3, Try.ntmps3
  go_wp2_with fail
  refine (c_polyFact _).mono ?_
  rintro e w1 ⟨rfl, hb1⟩
  go_wp2_with fail
  all_goals first
    | (go_ret; exact ⟨rfl, hb1⟩)
    | (refine (c_PMul_ok _ _ _ _ _ _ f g _ (H1.out.on hb1) (H2.out.on hb1) HF.out HG.out).mono ?_
       rintro e w2 ⟨A6, c6, rfl, _, hb⟩
       have T2 := hb1.trans (hb.mono hb1.size)
       clear hb
       go_wp2_with fail
       refine (c_PMul_bad _ _ _ _ _ _ g h _ _ _ (H2.out.on T2) (H3.out.on T2) (fun e => HH.out e.2)).mono ?_
       rintro e w3 ⟨rfl, hb⟩
       have T3 := T2.trans (hb.mono T2.size)
       clear hb
       go_wp2_with fail
       refine (c_PAdd_any _ _ _ _ _ _ g h _ (H2.out.on T3) (H3.out.on T3)).mono ?_
       rintro e w4 ⟨⟨A5, m5, c5, er5, rfl⟩, hb⟩
       have T4 := T3.trans (hb.mono T3.size)
       clear hb
       go_wp2_with fail
       refine (c_RFactors _ _ _ f _ _ (H1.out.on T4) l1).mono ?_
       rintro e w' ⟨rfl, rfl⟩
       rw [hE0]
       go_wp2_with fail
       refine (c_RFactors _ _ _ g _ _ (H2.out.on T4) l2).mono ?_
       rintro e w' ⟨rfl, rfl⟩
       rw [hE1]
       go_wp2_with fail
       refine (c_RFactors _ _ _ h _ _ (H3.out.on T4) l3).mono ?_
       rintro e w' ⟨rfl, rfl⟩
       have hE' : (factE h != 0) = true := by simp [hE]
       go_wp2
       go_ret
       exact ⟨rfl, T4⟩)
set_option maxHeartbeats 4000000 in
set_option maxRecDepth 100000 in
theorem pring_ok (h1 : Rd w w.heap.size A1 n1 f) (h2 : Rd w w.heap.size A2 n2 g) (h3 : Rd w w.heap.size A3 n3 h) (hf : POk f) (hg : POk g) (hh : POk h) :
    Calls Try.prog 3 #[.slice A1 n1 c1, .slice A2 n2 c2, .slice A3 n3 c3] w fun e w' => e = .returned (.bool true) ∧ Below w.heap.size w w' := by
  have m1 : n1 ≤ 12 := by rw [← h1.1]; exact hf.1
  have m2 : n2 ≤ 12 := by rw [← h2.1]; exact hg.1
  have m3 : n3 ≤ 12 := by rw [← h3.1]; exact hh.1
  have H1 := Lib.hid h1
  have H2 := Lib.hid h2
  have H3 := Lib.hid h3
  have HF := Lib.hid hf
  have HG := Lib.hid hg
  have HH := Lib.hid hh
  by_cases hs : 12 < n1 + n2 + n3
  · have hs' : (12 : Int) < (n1 : Int) + (n2 : Int) + (n3 : Int) := by omega
    clear h1 h2 h3 hf hg hh
    go_enter Try.func3, Try.ntmps3
    go_wp2_with fail
    refine (c_polyFact _).mono ?_
    rintro e w1 ⟨rfl, hb1⟩
    go_wp2_with fail
    go_ret
    exact ⟨rfl, hb1⟩
  · have hs' : ¬ (12 : Int) < (n1 : Int) + (n2 : Int) + (n3 : Int) := by omega
    have e1 := h1.1
    have e2 := h2.1
    have e3 := h3.1
    have Pa : Hid (POk (pmul f g)) := ⟨by have := pmul_len f g; omega, pmul_pl f g⟩
    have Pb : Hid (POk (pmul g h)) := ⟨by have := pmul_len g h; omega, pmul_pl g h⟩
    have Ps : Hid (POk (padd g h)) := ⟨by have := padd_len g h; omega, padd_pl g h⟩
    have Pv : Hid (POk (pmul f h)) := ⟨by have := pmul_len f h; omega, pmul_pl f h⟩
    have E1 := Lib.hid (pmul_assoc f g h)
    have E2 := Lib.hid (pmul_comm f g)
    have E3 := Lib.hid (pmul_add f g h)
    clear h1 h2 h3 hf hg hh e1 e2 e3
    go_enter Try.func3, Try.ntmps3
    go_wp2_with fail
    refine (c_polyFact _).mono ?_
    rintro e w1 ⟨rfl, T1⟩
    go_wp2_with fail
    refine (c_PMul_ok _ _ _ _ _ _ f g _ (H1.out.on T1) (H2.out.on T1) HF.out HG.out).mono ?_
    rintro e w2 ⟨Aa, ca, rfl, o, hb⟩
    have Ra := Lib.hid o.rd
    have T2 := T1.trans (hb.mono T1.size)
    clear o hb
    go_wp2_with fail
    refine (c_PMul_ok _ _ _ _ _ _ g h _ (H2.out.on T2) (H3.out.on T2) HG.out HH.out).mono ?_
    rintro e w3 ⟨Ab, cb, rfl, o, hb⟩
    have Rb := Lib.hid o.rd
    have Ra := Lib.hid (Ra.out.on hb)
    have T3 := T2.trans (hb.mono T2.size)
    clear o hb
    go_wp2_with fail
    refine (c_PAdd_ok _ _ _ _ _ _ g h _ (H2.out.on T3) (H3.out.on T3) HG.out HH.out).mono ?_
    rintro e w4 ⟨As, cs, rfl, o, hb⟩
    have Rs := Lib.hid o.rd
    have Ra := Lib.hid (Ra.out.on hb)
    have Rb := Lib.hid (Rb.out.on hb)
    have T4 := T3.trans (hb.mono T3.size)
    clear o hb
    go_wp2_with fail
    refine (c_PMul_ok _ _ _ _ _ _ (pmul f g) h _ Ra.out (H3.out.on T4) Pa.out HH.out).mono ?_
    rintro e w5 ⟨Ac, cc, rfl, o, hb⟩
    have Rc := Lib.hid o.rd
    have Ra := Lib.hid (Ra.out.on hb)
    have Rb := Lib.hid (Rb.out.on hb)
    have Rs := Lib.hid (Rs.out.on hb)
    have T5 := T4.trans (hb.mono T4.size)
    clear o hb
    go_wp2_with fail
    refine (c_PMul_ok _ _ _ _ _ _ f (pmul g h) _ (H1.out.on T5) Rb.out HF.out Pb.out).mono ?_
    rintro e w6 ⟨Ad, cd, rfl, o, hb⟩
    have Rd' := Lib.hid o.rd
    have Ra := Lib.hid (Ra.out.on hb)
    have Rc := Lib.hid (Rc.out.on hb)
    have Rs := Lib.hid (Rs.out.on hb)
    have T6 := T5.trans (hb.mono T5.size)
    clear o hb Rb
    go_wp2_with fail
    refine (c_PMul_ok _ _ _ _ _ _ g f _ (H2.out.on T6) (H1.out.on T6) HG.out HF.out).mono ?_
    rintro e w7 ⟨Ak, ck, rfl, o, hb⟩
    have Rk := Lib.hid o.rd
    have Ra := Lib.hid (Ra.out.on hb)
    have Rc := Lib.hid (Rc.out.on hb)
    have Rd' := Lib.hid (Rd'.out.on hb)
    have Rs := Lib.hid (Rs.out.on hb)
    have T7 := T6.trans (hb.mono T6.size)
    clear o hb
    go_wp2_with fail
    refine (c_PMul_ok _ _ _ _ _ _ f (padd g h) _ (H1.out.on T7) Rs.out HF.out Ps.out).mono ?_
    rintro e w8 ⟨Au, cu, rfl, o, hb⟩
    have Ru := Lib.hid o.rd
    have Ra := Lib.hid (Ra.out.on hb)
    have Rc := Lib.hid (Rc.out.on hb)
    have Rd' := Lib.hid (Rd'.out.on hb)
    have Rk := Lib.hid (Rk.out.on hb)
    have T8 := T7.trans (hb.mono T7.size)
    clear o hb Rs
    go_wp2_with fail
    refine (c_PMul_ok _ _ _ _ _ _ f h _ (H1.out.on T8) (H3.out.on T8) HF.out HH.out).mono ?_
    rintro e w9 ⟨Av, cv', rfl, o, hb⟩
    have Rv := Lib.hid o.rd
    have Ra := Lib.hid (Ra.out.on hb)
    have Rc := Lib.hid (Rc.out.on hb)
    have Rd' := Lib.hid (Rd'.out.on hb)
    have Rk := Lib.hid (Rk.out.on hb)
    have Ru := Lib.hid (Ru.out.on hb)
    have T9 := T8.trans (hb.mono T8.size)
    clear o hb
    go_wp2_with fail
    refine (c_PAdd_ok _ _ _ _ _ _ (pmul f g) (pmul f h) _ Ra.out Rv.out Pa.out Pv.out).mono ?_
    rintro e w10 ⟨Aw, cw, rfl, o, hb⟩
    have Rw := Lib.hid o.rd
    have Ra := Lib.hid (Ra.out.on hb)
    have Rc := Lib.hid (Rc.out.on hb)
    have Rd' := Lib.hid (Rd'.out.on hb)
    have Rk := Lib.hid (Rk.out.on hb)
    have Ru := Lib.hid (Ru.out.on hb)
    have T10 := T9.trans (hb.mono T9.size)
    clear o hb Rv
    go_wp2_with fail
    refine (c_sameP _ _ _ _ _ _ _ _ _ _ _ E1.out Rc.out Rd'.out (by have := pmul_len (pmul f g) h; have := Pa.out.1; have := HH.out.1; omega)).mono ?_
    rintro e w11 ⟨rfl, hb⟩
    have Ra := Lib.hid (Ra.out.on hb)
    have Rk := Lib.hid (Rk.out.on hb)
    have Ru := Lib.hid (Ru.out.on hb)
    have Rw := Lib.hid (Rw.out.on hb)
    have T11 := T10.trans (hb.mono T10.size)
    clear hb Rc Rd'
    go_wp2_with fail
    refine (c_sameP _ _ _ _ _ _ _ _ _ _ _ E2.out Ra.out Rk.out (by have := Pa.out.1; omega)).mono ?_
    rintro e w12 ⟨rfl, hb⟩
    have Ru := Lib.hid (Ru.out.on hb)
    have Rw := Lib.hid (Rw.out.on hb)
    have T12 := T11.trans (hb.mono T11.size)
    clear hb Ra Rk
    go_wp2_with fail
    refine (c_sameP _ _ _ _ _ _ _ _ _ _ _ E3.out Ru.out Rw.out (by have := pmul_len f (padd g h); have := Ps.out.1; have := HF.out.1; omega)).mono ?_
    rintro e w13 ⟨rfl, hb⟩
    have T13 := T12.trans (hb.mono T12.size)
    go_wp2
    go_ret
    exact ⟨rfl, T13⟩
end
theorem frame_PolyRing (A1 : Option Addr) (n1 c1 : Nat) (f : List Int) (A2 : Option Addr) (n2 c2 : Nat) (g : List Int) (A3 : Option Addr) (n3 c3 : Nat) (h : List Int) (w : World)
    (h1 : Rd w w.heap.size A1 n1 f) (b1 : n1 ≤ c1 ∧ c1 ≤ 9223372036854775807) (_ : ∀ x ∈ f, Fits x) (h2 : Rd w w.heap.size A2 n2 g) (b2 : n2 ≤ c2 ∧ c2 ≤ 9223372036854775807) (_ : ∀ x ∈ g, Fits x) (h3 : Rd w w.heap.size A3 n3 h) (b3 : n3 ≤ c3 ∧ c3 ≤ 9223372036854775807) (_ : ∀ x ∈ h, Fits x) :
    Calls Try.prog 3 #[.slice A1 n1 c1, .slice A2 n2 c2, .slice A3 n3 c3] w fun e w' => e = .returned (.bool true) ∧ Below w.heap.size w w' := by
  by_cases p1 : POk f
  · by_cases p2 : POk g
    · by_cases p3 : POk h
      · exact pring_ok A1 A2 A3 n1 n2 n3 c1 c2 c3 f g h w h1 h2 h3 p1 p2 p3
      · exact pring_three A1 A2 A3 n1 n2 n3 c1 c2 c3 f g h w h1 h2 h3 (by omega) (by omega) (by omega) p1 p2 p3
    · exact pring_two A1 A2 A3 n1 n2 n3 c1 c2 c3 f g h w h1 h2 h3 (by omega) (by omega) p1 p2
  · exact pring_one A1 A2 A3 n1 n2 n3 c1 c2 c3 f g h w h1 h2 h3 (by omega) p1
end Go.Proofs.Ytaidincogkfodaa
