/- The walk of the statement TopRows: the law returns true for all arguments. -/
import Derived.Test.YtcbpkjmmacgmfaaBand
import Derived.Test.YtcbpkjmmacgmfaaContC
import Derived.Test.YtcbpkjmmacgmfaaRef
import Derived.Test.YtcbpkjmmacgmfaaPush2
namespace Go.Proofs.Ytcbpkjmmacgmfaa
open Go.RowKit

theorem rep_succ (n : Nat) (z : Int) : List.replicate n z ++ [z] = List.replicate (n + 1) z := List.replicate_succ'.symm
theorem rep_any (n : Nat) {z : Int} (h : 0 ≤ z ∧ z ≤ 9972) : anyB (List.replicate n z) 0 9972 = false := anyB_false_of fun x hx => by
  obtain ⟨_, rfl⟩ := List.mem_replicate.1 hx
  exact h
theorem rep_nth {n k : Nat} (z : Int) (h : k < n) : nth (List.replicate n z) k = z := by
  unfold nth
  simp [List.getD, h]
theorem rd_3 (w : World) : Rd (w.alloc (.cells #[.int .i64 3] 3)) (w.alloc (.cells #[.int .i64 3] 3)).heap.size (some ⟨w.heap.size, 0, none⟩) 1 [3] := by
  refine ⟨rfl, fun _ => ⟨_, _, rfl, by simp, fun j hj => ?_⟩⟩
  obtain rfl : j = 0 := by omega
  simp [nth]
theorem rd_0 (w : World) : Rd w w.heap.size none 0 [] := ⟨rfl, fun h => absurd h (by omega)⟩
theorem one_below (w : World) (o : Obj) : Below w.heap.size w (w.alloc o) := (Below.refl _ w).alloc (Nat.le_refl _) o
/-- The law's closed step. -/
theorem rows_three (w : World) : Calls Try.prog 6 #[.slice (some ⟨w.heap.size, 0, none⟩) 1 1, .slice none 0 0, .slice none 0 0] (w.alloc (.cells #[.int .i64 3] 3)) fun e w' => e = .returned (.tuple #[.int .i64 3, .nilIface]) ∧ Below w.heap.size w w' := by
  refine (c_BDet _ _ _ 1 0 0 1 0 0 [3] [] [] _ (rd_3 w) (rd_0 _) (rd_0 _) (by omega) (by omega) rfl rfl (by decide) (by decide) (by decide)).mono ?_
  rintro e w' ⟨rfl, hb⟩
  exact ⟨rfl, (one_below w _).trans (hb.mono (by simp))⟩
section
variable (A : Option Addr) (n c : Nat) (L : List Int) (w : World)
set_option maxHeartbeats 1000000 in
set_option maxRecDepth 100000 in
theorem rows_bad (hL : Rd w w.heap.size A n L) (hc : n ≤ c ∧ c ≤ 9223372036854775807) (h : ¬ TOk L) :
    Calls Try.prog 3 #[.slice A n c] w fun e w' => e = .returned (.bool true) ∧ Below w.heap.size w w' := by
  have H := Lib.hid h
  clear h
  go_enter Try.func3, Try.ntmps3
  go_wp2_with fail
  refine (c_Near_bad _ _ _ L _ hL hc H.out).mono ?_
  rintro e w' ⟨rfl, rfl⟩
  go_wp2_with fail
  refine (rows_three w).mono ?_
  rintro e w2 ⟨rfl, hb⟩
  go_wp2
  go_ret
  exact ⟨rfl, hb⟩
set_option maxHeartbeats 4000000 in
set_option maxRecDepth 100000 in
theorem rows_ok (hL : Rd w w.heap.size A n L) (hc : n ≤ c ∧ c ≤ 9223372036854775807) (h : TOk L) :
    Calls Try.prog 3 #[.slice A n c] w fun e w' => e = .returned (.bool true) ∧ Below w.heap.size w w' := by
  have H := Lib.hid h
  have HL := Lib.hid hL
  have hn1 : 1 ≤ n ∧ n ≤ 30 := by rw [← hL.1]; exact ⟨h.1, h.2.1⟩
  clear h hL
  go_enter Try.func3, Try.ntmps3
  go_wp2_with fail
  refine (c_Near_ok _ _ _ L _ HL.out hc H.out).mono ?_
  rintro e w1 ⟨⟨hC, A1, c1, rfl, o⟩ | ⟨hC, rfl⟩, hb1⟩
  · have O1 := Lib.hid o
    have HC := Lib.hid hC
    clear o hC
    go_wp2_with fail
    refine (rows_three w1).mono ?_
    rintro e w2 ⟨rfl, hb⟩
    have O2 := Lib.hid (O1.out.keep hb)
    have T2 := hb1.trans (hb.mono hb1.size)
    clear hb hb1 O1
    by_cases h10 : 10 < n
    · go_wp2
      go_ret
      exact ⟨rfl, T2⟩
    · cases ha : allB L 0 9972
      · go_wp2_with fail
        refine (c_All _ _ _ L 0 9972 _ _ (HL.out.below T2) (by omega)).mono ?_
        rintro e w' ⟨rfl, rfl⟩
        rw [ha]
        go_wp2
        go_ret
        exact ⟨rfl, T2⟩
      · have aL : Hid (anyB L 0 9972 = false) := by rw [Hid]; have := ha; rw [allB_not] at this; simpa using this
        go_wp2_with fail
        refine (c_All _ _ _ L 0 9972 _ _ (HL.out.below T2) (by omega)).mono ?_
        rintro e w' ⟨rfl, rfl⟩
        rw [ha]
        clear ha
        go_wp2
        go_loopw [7, 8, 9] (fun u v i wr => ∃ (k : Nat) (A3 A4 : Option Addr) (c3 c4 : Nat), k + 1 ≤ n ∧ i = .int .i64 ((k + 1 : Nat) : Int) ∧ u = .slice A3 k c3 ∧ v = .slice A4 k c4 ∧ Hid (Own wr w2.heap.size A3 k c3 (List.replicate k 1)) ∧ Hid (Own wr w2.heap.size A4 k c4 (List.replicate k 9972)) ∧ Hid (Apart A3 A4) ∧ Below w2.heap.size w2 wr) (fun _ _ i _ => n - (intOf i).toNat)
        case atStart => exact ⟨0, none, none, 0, 0, hn1.1, rfl, rfl, rfl, Own.nil _ _, Own.nil _ _, apart_none _, Below.refl _ _⟩
        case round =>
          obtain ⟨k, A3, A4, c3, c4, hk, rfl, rfl, rfl, hu, hv, hd, hbr⟩ := hrel
          by_cases hlt : k + 1 < n
          · have hs := hbr.size
            go_wp2_with (at_builtin; refine wp_push_two rfl (.tmp 52) (.tmp 53) rfl w2.heap.size rfl rfl hu.out hv.out hd.out (by omega) hs ?_)
            intro A5 c5 w5 o5 o5' hd5 hb5
            rw [rep_succ] at o5
            have O5 := Lib.hid o5
            have O5' := Lib.hid o5'
            have HD5 := Lib.hid hd5.symm
            have B5 := hbr.trans hb5
            have hs5 := B5.size
            clear o5 o5' hd5 hb5 hbr hs hu hv hd
            go_wp2_with (at_builtin; refine wp_push_two rfl (.tmp 55) (.tmp 56) rfl w2.heap.size rfl rfl O5'.out O5.out HD5.out (by omega) hs5 ?_)
            intro A6 c6 w6 o6 o6' hd6 hb6
            rw [rep_succ] at o6
            have O6 := Lib.hid o6
            have O6' := Lib.hid o6'
            have HD6 := Lib.hid hd6.symm
            have B6 := Lib.hid (B5.trans hb6)
            clear o6 o6' hd6 hb6 B5 hs5
            go_wp2
            go_roundw
            case rel => exact ⟨k + 1, A5, A6, c5, c6, by omega, by go_num, rfl, rfl, O6'.out, O6.out, HD6.out, B6.out⟩
            case measure => simp [intOf]; omega
          · obtain rfl : n = k + 1 := by omega
            have T3 := T2.trans (hbr.mono T2.size)
            have O3 := Lib.hid (O2.out.keep hbr)
            have R1 := Lib.hid hu.out.rd
            have R2 := Lib.hid hv.out.rd
            clear hbr T2 O2 hd
            go_wp2_with fail
            refine (c_BDet _ _ _ (k + 1) k k c c3 c4 L (List.replicate k 1) (List.replicate k 9972) _ ((HL.out.below T3).more T3.size) R1.out R2.out (by omega) (by omega) rfl rfl aL.out (rep_any k (by omega)) (rep_any k (by omega))).mono ?_
            rintro e w4 ⟨rfl, hb⟩
            have O4 := Lib.hid (O3.out.keep hb)
            have T4 := T3.trans (hb.mono T3.size)
            clear hb T3 O3 R1 R2
            obtain ⟨b, off, rfl, p1, _⟩ := O4.out.rd.at_ (k := k) (by omega)
            rw [cfs_nf L (by omega)] at p1
            have EQ : Hid (bdt L (List.replicate k 1) (List.replicate k 9972) (k + 1) = cp L (k + 1) % 9973) := by
              have h1 := (bdt_cp (L := L) (U := List.replicate k 1) (V := List.replicate k 9972) (n := k + 1) (fun j hj => rep_nth 1 (by omega)) (fun j hj => rep_nth 9972 (by omega)) (k + 1) (Nat.le_refl _)).1
              have h2 := any_nth aL.out (k := 0) (by rw [HL.out.1]; omega)
              have h3 := bdt_bd (L := L) (U := List.replicate k 1) (V := List.replicate k 9972) (by omega) (k + 1)
              rw [Hid]; omega
            rw [EQ.out]
            have bc := HC.out (k + 1) (by omega) (Nat.le_refl _)
            have b0 := (cv_bd H.out (k + 1) (by rw [HL.out.1]; omega)).1
            obtain ⟨p, hp⟩ : ∃ p, p = cp L (k + 1) := ⟨_, rfl⟩
            have p1' : w4.cell? ⟨b, off + k * 2, none⟩ = some (.int .i64 p) := by rw [hp]; exact p1
            rw [← hp] at bc b0 ⊢
            clear hp p1
            go_wp2_with fail
            refine (c_RMod p _ (by omega) (by omega)).mono ?_
            rintro e w' ⟨rfl, rfl⟩
            go_wp2
            go_ret
            exact ⟨rfl, T4⟩
  · go_wp2_with fail
    refine (rows_three w1).mono ?_
    rintro e w2 ⟨rfl, hb⟩
    go_wp2
    go_ret
    exact ⟨rfl, hb1.trans (hb.mono hb1.size)⟩
end
theorem frame_TopRows (A : Option Addr) (n c : Nat) (L : List Int) (w : World)
    (hL : Rd w w.heap.size A n L) (hc : n ≤ c ∧ c ≤ 9223372036854775807) (_ : ∀ x ∈ L, Fits x) :
    Calls Try.prog 3 #[.slice A n c] w fun e w' => e = .returned (.bool true) ∧ Below w.heap.size w w' := by
  by_cases h : TOk L
  · exact rows_ok A n c L w hL hc h
  · exact rows_bad A n c L w hL hc h
end Go.Proofs.Ytcbpkjmmacgmfaa
