/- The walk of the reference's convolution. -/
import Derived.Test.YtmicgjpelikjiaaDoorNttRefW
import Derived.BigQuiet
import Derived.Deep.QuietTactic
import Derived.Deep.RegionWith
namespace Go.Proofs.YtmicgjpelikjiaaDoor
open Go.RowKit

set_option maxHeartbeats 4000000 in
theorem c_RFolded (A A' : Option Addr) (c c' : Nat) (X Y : List Int) (w : World) (hX : Rd w w.heap.size A 8 X) (hY : Rd w w.heap.size A' 8 Y) (h8 : Eight X) (h8' : Eight Y) :
    Calls Tryd.prog 12 #[.slice A 8 c, .slice A' 8 c'] w fun e w' => ∃ g, e = .returned (.slice (some ⟨g, 0, none⟩) 8 8) ∧ Own w' w.heap.size (some ⟨g, 0, none⟩) 8 8 (foldL X Y) ∧ Below w.heap.size w w' := by
  have H8 := Lib.hid h8
  have H8' := Lib.hid h8'
  have HX := Lib.hid hX
  have HY := Lib.hid hY
  clear h8 h8' hX hY
  go_enter Tryd.func12, Tryd.ntmps12
  go_wp2_with (at_make; refine wp_make rfl _ _ rfl 8 8 rfl rfl rfl (by omega) ?_)
  intro w1 own hb hlt1
  have O1 : Hid (Own w1 w.heap.size (some ⟨w.heap.size, 0, none⟩) 8 8 (allC X Y 0)) := own
  obtain ⟨g, hg⟩ : ∃ g, g = w.heap.size := ⟨_, rfl⟩
  have hg1 : w.heap.size ≤ g := by omega
  have hg2 : g < w1.heap.size := by omega
  have O2 : Hid (Own w1 w.heap.size (some ⟨g, 0, none⟩) 8 8 (allC X Y 0)) := by rw [hg]; exact O1
  clear own O1
  rw [← hg]
  clear hg
  go_wp2
  go_loopw [6] (fun t wr => ∃ i : Nat, i ≤ 8 ∧ t = .int .i64 i ∧ Hid (Own wr w.heap.size (some ⟨g, 0, none⟩) 8 8 (allC X Y i)) ∧ Below w.heap.size w wr) (fun t _ => 8 - (intOf t).toNat)
  case atStart => exact ⟨0, Nat.zero_le _, rfl, O2, hb⟩
  case round =>
    obtain ⟨i, hi, rfl, ho, hbr⟩ := hrel
    by_cases hlt : i < 8
    · go_wp2
      go_loopw [7] (fun t w2 => ∃ j : Nat, j ≤ 8 ∧ t = .int .i64 j ∧ Hid (Own w2 w.heap.size (some ⟨g, 0, none⟩) 8 8 (rowC X Y i (allC X Y i) j)) ∧ Below w.heap.size w w2) (fun t _ => 8 - (intOf t).toNat)
      case atStart => exact ⟨0, Nat.zero_le _, rfl, ho, hbr⟩
      case round =>
        obtain ⟨j, hj, rfl, ho2, hbr2⟩ := hrel
        by_cases hlt2 : j < 8
        · obtain ⟨b, off, rfl, hbB, hc⟩ := (HX.out.below hbr2).at' hlt
          obtain ⟨b', off', rfl, hbB', hc'⟩ := (HY.out.below hbr2).at' hlt2
          have hm0 : (i + j) % 8 < 8 := Nat.mod_lt _ (by omega)
          have hx := H8.out.2 i hlt
          have hy := H8'.out.2 j hlt2
          have hz := (rowC_eight X Y i (allC_eight X Y i) j).2 _ hm0
          have c1 := ho2.out.cell hm0
          have c2 := ho2.out.free ((i + j) % 8)
          have HN : Hid ((rowC X Y i (allC X Y i) j).set ((i + j) % 8) ((nth (rowC X Y i (allC X Y i) j) ((i + j) % 8) + nth X i * nth Y j) % 257) = rowC X Y i (allC X Y i) (j + 1)) := rfl
          have hmc : ((i : Int) + (j : Int)) % 8 = (((i + j) % 8 : Nat) : Int) := by omega
          obtain ⟨m, hm⟩ : ∃ m, m = (i + j) % 8 := ⟨_, rfl⟩
          rw [← hm] at hm0 hz c1 c2 HN hmc
          obtain ⟨x, hx'⟩ : ∃ x, x = nth X i := ⟨_, rfl⟩
          obtain ⟨y, hy'⟩ : ∃ y, y = nth Y j := ⟨_, rfl⟩
          obtain ⟨z, hz'⟩ : ∃ z, z = nth (rowC X Y i (allC X Y i) j) m := ⟨_, rfl⟩
          rw [← hx'] at hc hx HN
          rw [← hy'] at hc' hy HN
          rw [← hz'] at c1 hz HN
          have hb2 := prod_bd x y hx hy
          clear hx' hy' hz' hm
          go_wp2
          go_region
          go_wp2
          go_roundw
          case rel => exact ⟨j + 1, by omega, by go_num, by rw [← HN.out]; exact ho2.out.set m _, (hbr2.setCell (p := ⟨g, m, none⟩) (show w.heap.size ≤ g from hg1) _).drew⟩
          case measure => simp [intOf]; omega
        · obtain rfl : j = 8 := by omega
          go_wp2
          go_roundw
          case rel => exact ⟨i + 1, by omega, by go_num, ho2, hbr2⟩
          case measure => simp [intOf]; omega
    · obtain rfl : i = 8 := by omega
      rw [all_fold] at ho
      go_wp2
      go_ret
      exact ⟨g, rfl, ho.out, hbr⟩
end Go.Proofs.YtmicgjpelikjiaaDoor
