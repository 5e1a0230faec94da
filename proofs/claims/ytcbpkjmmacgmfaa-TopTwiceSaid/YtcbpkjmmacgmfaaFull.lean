/- The contract of result.full for a list of three and one of two, or the other way round. -/
import Derived.Test.YtcbpkjmmacgmfaaMatG
namespace Go.Proofs.Ytcbpkjmmacgmfaa
open Go.RowKit

/-- The matrix of Sylvester. -/
def syl (f g : List Int) : Nat → List Int := mput (mput (fun _ => [0, 0, 0]) 0 f (g.length - 1)) (g.length - 1) g (f.length - 1)
theorem full_start {w1 : World} {base G : Nat} {r c : Nat → Nat} {L : Nat → List Int} (HP : PX w1 base G 3 r c L) (hz : ∀ i, i < 3 → L i = [0, 0, 0]) (t : TypeId) :
    PX (w1.alloc (.cells #[.slice (some ⟨G, 0, none⟩) 3 3] t)) base G 3 r c (fun _ => [0, 0, 0]) ∧ (w1.alloc (.cells #[.slice (some ⟨G, 0, none⟩) 3 3] t)).cell? ⟨w1.heap.size, 0, none⟩ = some (.slice (some ⟨G, 0, none⟩) 3 3) ∧ (∀ i, i < 3 → w1.heap.size ≠ r i) :=
  ⟨(HP.congr hz).alloc _, by simp, fun i hi => by have := (HP.lt hi).2; omega⟩
set_option maxHeartbeats 2000000 in
theorem c_full (w : World) (A A' : Option Addr) (m m' cf cg : Nat) (f g : List Int) (hf : Rd w w.heap.size A m f) (hg : Rd w w.heap.size A' m' g) (hm : (m = 3 ∧ m' = 2) ∨ (m = 2 ∧ m' = 3)) :
    Calls Try.prog 20 #[.slice A m cf, .slice A' m' cg] w fun e w' => ∃ (G : Nat) (r c : Nat → Nat), e = .returned (.slice (some ⟨G, 0, none⟩) 3 3) ∧ PX w' w.heap.size G 3 r c (syl f g) ∧ Below w.heap.size w w' := by
  have hmf : ∀ (fn : Fn) (first cap : Array Value) (w : World), (Instr.makeFunc fn first cap).run Try.prog w = .ok (.func fn first cap) w := fun _ _ _ _ => rfl
  have HF := Lib.hid hf
  have HG := Lib.hid hg
  have HS : Hid (mput (mput (fun _ => [0, 0, 0]) 0 f (m' - 1)) (m' - 1) g (m - 1) = syl f g) := by
    unfold syl; rw [Hid, hf.len, hg.len]
  clear hf hg
  rcases hm with ⟨rfl, rfl⟩ | ⟨rfl, rfl⟩
  · go_enter Try.func20, Try.ntmps20
    go_wp2_with fail
    refine (c_Grid w).mono ?_
    rintro e w1 ⟨G, r, c, L, rfl, hP, hz, hb1⟩
    obtain ⟨hP2, hc2, hn2⟩ := full_start hP hz 45
    have hB2 := Lib.hid (hb1.alloc hb1.size (.cells #[.slice (some ⟨G, 0, none⟩) 3 3] 45))
    have HP2 := Lib.hid hP2
    have HN2 := Lib.hid hn2
    have HC2 := Lib.hid hc2
    clear hP hz hP2 hn2 hc2
    go_wp2_with fail
    obtain ⟨w2, hw2⟩ : ∃ w2, w2 = w1.alloc (.cells #[.slice (some ⟨G, 0, none⟩) 3 3] 45) := ⟨_, rfl⟩
    rw [← hw2] at hB2 HP2 HC2 ⊢
    refine (c_put w2 w.heap.size G w1.heap.size 0 1 3 _ w.heap.size A r c _ f HP2.out HC2.out HN2.out (HF.out.below hB2.out) (Nat.le_refl _) (by omega) (by omega) (by omega)).mono ?_
    rintro e w3 ⟨rfl, hP3, hc3, hb3⟩
    have hB3 := hB2.out.trans hb3
    clear hw2
    go_wp2_with fail
    refine (c_put w3 w.heap.size G w1.heap.size 1 2 2 _ w.heap.size A' r c _ g hP3 hc3 HN2.out (HG.out.below hB3) (Nat.le_refl _) (by omega) (by omega) (by omega)).mono ?_
    rintro e w4 ⟨rfl, hP4, hc4, hb4⟩
    have hB4 := hB3.trans hb4
    have HP4 := Lib.hid hP4
    clear hP3 hP4
    go_wp2
    go_ret
    exact ⟨G, r, c, rfl, by rw [← HS.out]; exact HP4.out, hB4⟩
  · go_enter Try.func20, Try.ntmps20
    go_wp2_with fail
    refine (c_Grid w).mono ?_
    rintro e w1 ⟨G, r, c, L, rfl, hP, hz, hb1⟩
    obtain ⟨hP2, hc2, hn2⟩ := full_start hP hz 45
    have hB2 := Lib.hid (hb1.alloc hb1.size (.cells #[.slice (some ⟨G, 0, none⟩) 3 3] 45))
    have HP2 := Lib.hid hP2
    have HN2 := Lib.hid hn2
    have HC2 := Lib.hid hc2
    clear hP hz hP2 hn2 hc2
    go_wp2_with fail
    obtain ⟨w2, hw2⟩ : ∃ w2, w2 = w1.alloc (.cells #[.slice (some ⟨G, 0, none⟩) 3 3] 45) := ⟨_, rfl⟩
    rw [← hw2] at hB2 HP2 HC2 ⊢
    refine (c_put w2 w.heap.size G w1.heap.size 0 2 2 _ w.heap.size A r c _ f HP2.out HC2.out HN2.out (HF.out.below hB2.out) (Nat.le_refl _) (by omega) (by omega) (by omega)).mono ?_
    rintro e w3 ⟨rfl, hP3, hc3, hb3⟩
    have hB3 := hB2.out.trans hb3
    clear hw2
    go_wp2_with fail
    refine (c_put w3 w.heap.size G w1.heap.size 2 1 3 _ w.heap.size A' r c _ g hP3 hc3 HN2.out (HG.out.below hB3) (Nat.le_refl _) (by omega) (by omega) (by omega)).mono ?_
    rintro e w4 ⟨rfl, hP4, hc4, hb4⟩
    have hB4 := hB3.trans hb4
    have HP4 := Lib.hid hP4
    clear hP3 hP4
    go_wp2
    go_ret
    exact ⟨G, r, c, rfl, by rw [← HS.out]; exact HP4.out, hB4⟩
end Go.Proofs.Ytcbpkjmmacgmfaa
