/- The contracts of num.Grounds, mat.Check, det.Check and det.Of where nothing is wrong, over three rows of three. -/
import Derived.Test.YtcbpkjmmacgmfaaDetF
namespace Go.Proofs.Ytcbpkjmmacgmfaa
open Go.RowKit

theorem any_row {L : List Int} (hl : L.length = 3) (h : ∀ j, j < 3 → 0 ≤ nth L j ∧ nth L j < 9973) : anyB L 0 9972 = false := by
  match L, hl with
  | [a, b, c], _ =>
    have h0 : 0 ≤ a ∧ a < 9973 := h 0 (by omega)
    have h1 : 0 ≤ b ∧ b < 9973 := h 1 (by omega)
    have h2 : 0 ≤ c ∧ c < 9973 := h 2 (by omega)
    refine anyB_false_of fun n hn => ?_
    simp at hn
    omega
section
variable (w : World) (base G : Nat) (r c : Nat → Nat) (L : Nat → List Int)
set_option maxHeartbeats 2000000 in
theorem c_Grounds (h : PX w base G 3 r c L) (hg : RG L) :
    Calls Try.prog 31 #[.slice (some ⟨G, 0, none⟩) 3 3, .int .i64 5, .int .i64 0, .int .i64 9972] w fun e w' => e = .returned .nilIface ∧ w = w' := by
  have x0 := h.1 0 (by omega)
  have HP := Lib.hid h
  have HG := Lib.hid hg
  obtain ⟨rz, hrz⟩ : ∃ v, v = r 0 := ⟨_, rfl⟩
  obtain ⟨cz, hcz⟩ : ∃ v, v = c 0 := ⟨_, rfl⟩
  rw [← hrz, ← hcz] at x0
  clear h hg hrz hcz
  go_enter Try.func31, Try.ntmps31
  go_wp2
  go_loop [39] (fun s => ∃ i : Nat, i ≤ 3 ∧ s = .int .i64 i) (fun s => 3 - (intOf s).toNat)
  case atStart => exact ⟨0, by omega, rfl⟩
  case round =>
    obtain ⟨i, hi, rfl⟩ := hrel
    by_cases hlt : i < 3
    · have y1 := HP.out.1 i hlt
      have ow := HP.out.2.2.2.1 i hlt
      have hf := any_row ow.len (HG.out i hlt)
      have CA : Hid (Calls Try.prog 13 #[.slice (some ⟨r i, 0, none⟩) 3 (c i), .int .i64 0, .int .i64 9972] w fun e w' => e = .returned (.bool (anyB (L i) 0 9972)) ∧ w = w') := c_Any _ _ _ _ _ _ _ _ ow.rd (by omega)
      rw [hf] at CA
      obtain ⟨ri, hri⟩ : ∃ v, v = r i := ⟨_, rfl⟩
      obtain ⟨ci, hci⟩ : ∃ v, v = c i := ⟨_, rfl⟩
      rw [← hri, ← hci] at y1 CA
      clear hri hci ow hf
      go_wp2_with (go_at_call 13; refine CA.out.mono ?_; rintro e w' ⟨rfl, rfl⟩)
      go_round
      case rel => exact ⟨i + 1, by omega, by go_num⟩
      case measure => simp [intOf]; omega
    · obtain rfl : i = 3 := by omega
      go_wp2
      go_ret
      exact ⟨rfl, rfl⟩
theorem c_matCheck (h : PX w base G 3 r c L) (hg : RG L) :
    Calls Try.prog 27 #[.slice (some ⟨G, 0, none⟩) 3 3] w fun e w' => e = .returned .nilIface ∧ w = w' := by
  have CG : Hid (Calls Try.prog 31 #[.slice (some ⟨G, 0, none⟩) 3 3, .int .i64 5, .int .i64 0, .int .i64 9972] w fun e w' => e = .returned .nilIface ∧ w = w') := c_Grounds w base G r c L h hg
  clear h hg
  go_enter Try.func27, Try.ntmps27
  go_wp2_with fail
  refine CG.out.mono ?_
  rintro e w' ⟨rfl, rfl⟩
  go_wp2
  go_ret
  exact ⟨rfl, rfl⟩
theorem c_detCheck (h : PX w base G 3 r c L) (hg : RG L) :
    Calls Try.prog 23 #[.slice (some ⟨G, 0, none⟩) 3 3] w fun e w' => e = .returned .nilIface ∧ w = w' := by
  have CG : Hid (Calls Try.prog 27 #[.slice (some ⟨G, 0, none⟩) 3 3] w fun e w' => e = .returned .nilIface ∧ w = w') := c_matCheck w base G r c L h hg
  have x0 := h.1 0 (by omega)
  obtain ⟨rz, hrz⟩ : ∃ v, v = r 0 := ⟨_, rfl⟩
  obtain ⟨cz, hcz⟩ : ∃ v, v = c 0 := ⟨_, rfl⟩
  rw [← hrz, ← hcz] at x0
  clear h hg hrz hcz
  go_enter Try.func23, Try.ntmps23
  go_wp2_with fail
  refine CG.out.mono ?_
  rintro e w' ⟨rfl, rfl⟩
  go_wp2
  go_ret
  exact ⟨rfl, rfl⟩
theorem c_detOf (h : PX w base G 3 r c L) (hg : RG L) :
    Calls Try.prog 19 #[.slice (some ⟨G, 0, none⟩) 3 3] w fun e w' => e = .returned (.tuple #[.int .i64 (tr 0 L % 9973), .nilIface]) ∧ Below w.heap.size w w' := by
  have CK : Hid (Calls Try.prog 23 #[.slice (some ⟨G, 0, none⟩) 3 3] w fun e w' => e = .returned .nilIface ∧ w = w') := c_detCheck w base G r c L h hg
  have CF : Hid (Calls Try.prog 24 #[.slice (some ⟨G, 0, none⟩) 3 3] w fun e w' => e = .returned (.int .i64 (tr 0 L % 9973)) ∧ Below w.heap.size w w') := c_detof w base G r c L h hg
  clear h hg
  go_enter Try.func19, Try.ntmps19
  go_wp2_with fail
  refine CK.out.mono ?_
  rintro e w' ⟨rfl, rfl⟩
  go_wp2_with fail
  refine CF.out.mono ?_
  rintro e w' ⟨rfl, hb⟩
  go_wp2
  go_ret2
  exact ⟨rfl, hb⟩
end
end Go.Proofs.Ytcbpkjmmacgmfaa
