/- The contracts of package ntt. -/
import Derived.Test.YtmicgjpelikjiaaSame
import Derived.Test.YtmicgjpelikjiaaNum
import Derived.Test.YtmicgjpelikjiaaNttM
namespace Go.Proofs.Ytmicgjpelikjiaa
open Go.RowKit

/-- The closure: the sum at place i, read out of the three captured variables. -/
theorem c_at (i : Nat) (hi : i < 8) (bl bp bf : Nat) (A : Option Addr) (c : Nat) (L : List Int) (r f : Int) (B : Nat) (w : World) (hl : w.cell? ⟨bl, 0, none⟩ = some (.slice A 8 c)) (hL : Rd w B A 8 L) (h8 : Eight L)
    (hp : ∀ j, j < 8 → w.cell? ⟨bp, j, none⟩ = some (.int .i64 (pwl r j))) (hf : w.cell? ⟨bf, 0, none⟩ = some (.int .i64 f)) (hf1 : 0 ≤ f) (hf2 : f ≤ 256) :
    Calls Try.prog 30 #[.int .i64 i, .pointer (some ⟨bl, 0, none⟩), .pointer (some ⟨bp, 0, none⟩), .pointer (some ⟨bf, 0, none⟩)] w fun e w' => e = .returned (.int .i64 (dft r f L i)) ∧ w = w' := by
  have HP := Lib.hid hp
  have H8 := Lib.hid h8
  clear hp h8
  go_enter Try.func30, Try.ntmps30
  go_wp2
  go_loop [6, 11] (fun s t => ∃ (k : Nat) (x : Int), k ≤ 8 ∧ t = .int .i64 k ∧ s = .int .i64 x ∧ 0 ≤ x ∧ x ≤ 65536 * (k : Int) ∧ Hid (x = dsum r L i k)) (fun _ t => 8 - (intOf t).toNat)
  case atStart => exact ⟨0, 0, Nat.zero_le _, rfl, rfl, by omega, by omega, rfl⟩
  case round =>
    obtain ⟨k, x, hk, rfl, rfl, x1, x2, HX⟩ := hrel
    by_cases hlt : k < 8
    · obtain ⟨b, off, rfl, hc⟩ := hL.at_ hlt
      have hm0 : i * k % 8 < 8 := Nat.mod_lt _ (by omega)
      have hq : 0 ≤ (i : Int) * (k : Int) ∧ (i : Int) * (k : Int) ≤ 64 :=
        ⟨Int.mul_nonneg (by omega) (by omega), Int.mul_le_mul (c := 8) (d := 8) (by omega) (by omega) (by omega) (by omega)⟩
      have hpc := HP.out (i * k % 8) hm0
      have hb := prod_bd (nth L k) (pwl r (i * k % 8)) (H8.out.2 k hlt) (pwl_bd r _)
      have hn : Hid (x + nth L k * pwl r (i * k % 8) = dsum r L i (k + 1)) := by rw [Hid, HX.out]; rfl
      have hmc : (i : Int) * (k : Int) % 8 = ((i * k % 8 : Nat) : Int) := by rw [← Int.natCast_mul]; rfl
      obtain ⟨m, hm⟩ : ∃ m, m = i * k % 8 := ⟨_, rfl⟩
      rw [← hm] at hm0 hpc hb hn hmc
      obtain ⟨p, hpp⟩ : ∃ p, p = pwl r m := ⟨_, rfl⟩
      rw [← hpp] at hpc hb hn
      clear hm hpp
      go_wp2
      go_round
      case rel => exact ⟨k + 1, x + nth L k * p, by omega, by go_num, rfl, by omega, by omega, hn⟩
      case measure => simp [intOf]; omega
    · obtain rfl : k = 8 := by omega
      have hb : 0 ≤ x % 257 * f ∧ x % 257 * f ≤ 65536 := prod_bd (x % 257) f (by omega) ⟨hf1, hf2⟩
      go_wp2
      go_ret
      exact ⟨ret_int (by rw [HX.out]; rfl), rfl⟩


theorem c_turn_there (A : Option Addr) (c : Nat) (L : List Int) (B : Nat) (w : World) (hL : Rd w B A 8 L) (hB : B ≤ w.heap.size) (h8 : Eight L) :
    Calls Try.prog 22 #[.slice A 8 c, .int .i64 64, .int .i64 1] w fun e w' => e = .returned (.slice (some ⟨(w.heap.size + 1 + 1 + 1), 0, none⟩) 8 8) ∧ Own w' (w.heap.size + 1 + 1 + 1) (some ⟨(w.heap.size + 1 + 1 + 1), 0, none⟩) 8 8 (turnL 64 1 L) ∧ Below w.heap.size w w' := by
  have hmk : ∀ w, (Instr.makeSlice 22 (.int .i64 8) (.int .i64 8)).run Try.prog w = .ok (.slice (some ⟨w.heap.size, 0, none⟩) 8 8) (w.alloc (.cells #[.int .i64 0, .int .i64 0, .int .i64 0, .int .i64 0, .int .i64 0, .int .i64 0, .int .i64 0, .int .i64 0] 3)) := fun _ => by kernel_rfl
  have hbox : Hid ((((w.alloc (.cells #[.slice A 8 c] 22)).alloc (.cells #[.int .i64 1] 3)).alloc (.cells #[.int .i64 1, .int .i64 64, .int .i64 241, .int .i64 4, .int .i64 256, .int .i64 193, .int .i64 16, .int .i64 253] 45)).cell? ⟨w.heap.size, 0, none⟩ = some (.slice A 8 c)) := by
    show _ = _
    rw [World.cell?_alloc_lt _ _ ⟨w.heap.size, 0, none⟩ (by simp; omega), World.cell?_alloc_lt _ _ ⟨w.heap.size, 0, none⟩ (by simp)]
    simp
  have hfac : Hid ((((w.alloc (.cells #[.slice A 8 c] 22)).alloc (.cells #[.int .i64 1] 3)).alloc (.cells #[.int .i64 1, .int .i64 64, .int .i64 241, .int .i64 4, .int .i64 256, .int .i64 193, .int .i64 16, .int .i64 253] 45)).cell? ⟨w.heap.size + 1, 0, none⟩ = some (.int .i64 1)) := by
    show _ = _
    rw [World.cell?_alloc_lt _ _ ⟨w.heap.size + 1, 0, none⟩ (by simp), World.cell?_alloc_at _ _ _ _ (by simp)]
    rfl
  have hpow : Hid (∀ j, j < 8 → (((w.alloc (.cells #[.slice A 8 c] 22)).alloc (.cells #[.int .i64 1] 3)).alloc (.cells #[.int .i64 1, .int .i64 64, .int .i64 241, .int .i64 4, .int .i64 256, .int .i64 193, .int .i64 16, .int .i64 253] 45)).cell? ⟨w.heap.size + 1 + 1, j, none⟩ = some (.int .i64 (pwl 64 j))) := by
    intro j hj
    rw [World.cell?_alloc_at _ _ _ _ (by simp)]
    match j, hj with
    | 0, _ => rfl
    | 1, _ => rfl
    | 2, _ => rfl
    | 3, _ => rfl
    | 4, _ => rfl
    | 5, _ => rfl
    | 6, _ => rfl
    | 7, _ => rfl
  have hrd : Hid (Rd (((w.alloc (.cells #[.slice A 8 c] 22)).alloc (.cells #[.int .i64 1] 3)).alloc (.cells #[.int .i64 1, .int .i64 64, .int .i64 241, .int .i64 4, .int .i64 256, .int .i64 193, .int .i64 16, .int .i64 253] 45)) B A 8 L) := ((hL.alloc hB _).alloc (by simp; omega) _).alloc (by simp; omega) _
  have hown0 : Hid (Own ((((w.alloc (.cells #[.slice A 8 c] 22)).alloc (.cells #[.int .i64 1] 3)).alloc (.cells #[.int .i64 1, .int .i64 64, .int .i64 241, .int .i64 4, .int .i64 256, .int .i64 193, .int .i64 16, .int .i64 253] 45)).alloc (.cells #[.int .i64 0, .int .i64 0, .int .i64 0, .int .i64 0, .int .i64 0, .int .i64 0, .int .i64 0, .int .i64 0] 3)) (w.heap.size + 1 + 1 + 1) (some ⟨(w.heap.size + 1 + 1 + 1), 0, none⟩) 8 8 (turnK 64 1 L 0)) := by
    rw [turnK_zero]
    have := own_new (((w.alloc (.cells #[.slice A 8 c] 22)).alloc (.cells #[.int .i64 1] 3)).alloc (.cells #[.int .i64 1, .int .i64 64, .int .i64 241, .int .i64 4, .int .i64 256, .int .i64 193, .int .i64 16, .int .i64 253] 45)) (List.replicate 8 0) 8 (by simp) (by omega)
    simpa [Hid] using this
  have hb0 : Below (w.heap.size + 1 + 1 + 1) (((w.alloc (.cells #[.slice A 8 c] 22)).alloc (.cells #[.int .i64 1] 3)).alloc (.cells #[.int .i64 1, .int .i64 64, .int .i64 241, .int .i64 4, .int .i64 256, .int .i64 193, .int .i64 16, .int .i64 253] 45)) ((((w.alloc (.cells #[.slice A 8 c] 22)).alloc (.cells #[.int .i64 1] 3)).alloc (.cells #[.int .i64 1, .int .i64 64, .int .i64 241, .int .i64 4, .int .i64 256, .int .i64 193, .int .i64 16, .int .i64 253] 45)).alloc (.cells #[.int .i64 0, .int .i64 0, .int .i64 0, .int .i64 0, .int .i64 0, .int .i64 0, .int .i64 0, .int .i64 0] 3)) := (Below.refl _ _).alloc (by simp) _
  have hbw : Below w.heap.size w (((w.alloc (.cells #[.slice A 8 c] 22)).alloc (.cells #[.int .i64 1] 3)).alloc (.cells #[.int .i64 1, .int .i64 64, .int .i64 241, .int .i64 4, .int .i64 256, .int .i64 193, .int .i64 16, .int .i64 253] 45)) := by go_grown
  obtain ⟨W0, hW0⟩ : ∃ W0, W0 = (((w.alloc (.cells #[.slice A 8 c] 22)).alloc (.cells #[.int .i64 1] 3)).alloc (.cells #[.int .i64 1, .int .i64 64, .int .i64 241, .int .i64 4, .int .i64 256, .int .i64 193, .int .i64 16, .int .i64 253] 45)) := ⟨_, rfl⟩
  go_enter Try.func22, Try.ntmps22
  go_wp2
  go_rounds 9
  rw [← hW0] at hbox hfac hpow hrd hown0 hb0 hbw ⊢
  clear hmk hW0
  go_loopw [28] (fun i wr => ∃ k : Nat, k ≤ 8 ∧ i = .int .i64 k ∧ Own wr (w.heap.size + 1 + 1 + 1) (some ⟨(w.heap.size + 1 + 1 + 1), 0, none⟩) 8 8 (turnK 64 1 L k) ∧ Below (w.heap.size + 1 + 1 + 1) W0 wr) (fun i _ => 8 - (intOf i).toNat)
  case atStart => exact ⟨0, Nat.zero_le _, rfl, hown0.out, hb0⟩
  case round =>
    obtain ⟨k, hk, rfl, hown, hb⟩ := hrel
    by_cases hlt : k < 8
    · have c1 : wr.cell? ⟨w.heap.size, 0, none⟩ = some (.slice A 8 c) := (hb.cell (p := ⟨w.heap.size, 0, none⟩) (by show w.heap.size < _; omega)).trans hbox.out
      have c2 : wr.cell? ⟨w.heap.size + 1, 0, none⟩ = some (.int .i64 1) := (hb.cell (p := ⟨w.heap.size + 1, 0, none⟩) (by show w.heap.size + 1 < _; omega)).trans hfac.out
      have c3 : Hid (∀ j, j < 8 → wr.cell? ⟨w.heap.size + 1 + 1, j, none⟩ = some (.int .i64 (pwl 64 j))) := fun j hj => (hb.cell (p := ⟨w.heap.size + 1 + 1, j, none⟩) (by show w.heap.size + 1 + 1 < _; omega)).trans (hpow.out j hj)
      have c4 := hown.cell hlt
      have c5 := hown.free k
      have c6 : Hid (Rd wr B A 8 L) := hrd.out.keep fun p hp => hb.cell (by omega)
      go_wp2_with (go_at_call 30; refine (c_at k hlt _ _ _ A c L 64 1 B _ c1 c6.out h8 c3.out c2 (by omega) (by omega)).mono ?_; rintro e w' ⟨rfl, rfl⟩)
      go_roundw
      case rel => exact ⟨k + 1, by omega, by go_num, by rw [← turnK_succ]; exact hown.set k _, hb.setCell (Nat.le_refl _) _⟩
      case measure => simp [intOf]; omega
    · obtain rfl : k = 8 := by omega
      rw [turnK_all] at hown
      go_wp2
      go_ret
      exact ⟨rfl, hown, hbw.trans (hb.mono (by omega))⟩

theorem c_turn_back (A : Option Addr) (c : Nat) (L : List Int) (B : Nat) (w : World) (hL : Rd w B A 8 L) (hB : B ≤ w.heap.size) (h8 : Eight L) :
    Calls Try.prog 22 #[.slice A 8 c, .int .i64 253, .int .i64 225] w fun e w' => e = .returned (.slice (some ⟨(w.heap.size + 1 + 1 + 1), 0, none⟩) 8 8) ∧ Own w' (w.heap.size + 1 + 1 + 1) (some ⟨(w.heap.size + 1 + 1 + 1), 0, none⟩) 8 8 (turnL 253 225 L) ∧ Below w.heap.size w w' := by
  have hmk : ∀ w, (Instr.makeSlice 22 (.int .i64 8) (.int .i64 8)).run Try.prog w = .ok (.slice (some ⟨w.heap.size, 0, none⟩) 8 8) (w.alloc (.cells #[.int .i64 0, .int .i64 0, .int .i64 0, .int .i64 0, .int .i64 0, .int .i64 0, .int .i64 0, .int .i64 0] 3)) := fun _ => by kernel_rfl
  have hbox : Hid ((((w.alloc (.cells #[.slice A 8 c] 22)).alloc (.cells #[.int .i64 225] 3)).alloc (.cells #[.int .i64 1, .int .i64 253, .int .i64 16, .int .i64 193, .int .i64 256, .int .i64 4, .int .i64 241, .int .i64 64] 45)).cell? ⟨w.heap.size, 0, none⟩ = some (.slice A 8 c)) := by
    show _ = _
    rw [World.cell?_alloc_lt _ _ ⟨w.heap.size, 0, none⟩ (by simp; omega), World.cell?_alloc_lt _ _ ⟨w.heap.size, 0, none⟩ (by simp)]
    simp
  have hfac : Hid ((((w.alloc (.cells #[.slice A 8 c] 22)).alloc (.cells #[.int .i64 225] 3)).alloc (.cells #[.int .i64 1, .int .i64 253, .int .i64 16, .int .i64 193, .int .i64 256, .int .i64 4, .int .i64 241, .int .i64 64] 45)).cell? ⟨w.heap.size + 1, 0, none⟩ = some (.int .i64 225)) := by
    show _ = _
    rw [World.cell?_alloc_lt _ _ ⟨w.heap.size + 1, 0, none⟩ (by simp), World.cell?_alloc_at _ _ _ _ (by simp)]
    rfl
  have hpow : Hid (∀ j, j < 8 → (((w.alloc (.cells #[.slice A 8 c] 22)).alloc (.cells #[.int .i64 225] 3)).alloc (.cells #[.int .i64 1, .int .i64 253, .int .i64 16, .int .i64 193, .int .i64 256, .int .i64 4, .int .i64 241, .int .i64 64] 45)).cell? ⟨w.heap.size + 1 + 1, j, none⟩ = some (.int .i64 (pwl 253 j))) := by
    intro j hj
    rw [World.cell?_alloc_at _ _ _ _ (by simp)]
    match j, hj with
    | 0, _ => rfl
    | 1, _ => rfl
    | 2, _ => rfl
    | 3, _ => rfl
    | 4, _ => rfl
    | 5, _ => rfl
    | 6, _ => rfl
    | 7, _ => rfl
  have hrd : Hid (Rd (((w.alloc (.cells #[.slice A 8 c] 22)).alloc (.cells #[.int .i64 225] 3)).alloc (.cells #[.int .i64 1, .int .i64 253, .int .i64 16, .int .i64 193, .int .i64 256, .int .i64 4, .int .i64 241, .int .i64 64] 45)) B A 8 L) := ((hL.alloc hB _).alloc (by simp; omega) _).alloc (by simp; omega) _
  have hown0 : Hid (Own ((((w.alloc (.cells #[.slice A 8 c] 22)).alloc (.cells #[.int .i64 225] 3)).alloc (.cells #[.int .i64 1, .int .i64 253, .int .i64 16, .int .i64 193, .int .i64 256, .int .i64 4, .int .i64 241, .int .i64 64] 45)).alloc (.cells #[.int .i64 0, .int .i64 0, .int .i64 0, .int .i64 0, .int .i64 0, .int .i64 0, .int .i64 0, .int .i64 0] 3)) (w.heap.size + 1 + 1 + 1) (some ⟨(w.heap.size + 1 + 1 + 1), 0, none⟩) 8 8 (turnK 253 225 L 0)) := by
    rw [turnK_zero]
    have := own_new (((w.alloc (.cells #[.slice A 8 c] 22)).alloc (.cells #[.int .i64 225] 3)).alloc (.cells #[.int .i64 1, .int .i64 253, .int .i64 16, .int .i64 193, .int .i64 256, .int .i64 4, .int .i64 241, .int .i64 64] 45)) (List.replicate 8 0) 8 (by simp) (by omega)
    simpa [Hid] using this
  have hb0 : Below (w.heap.size + 1 + 1 + 1) (((w.alloc (.cells #[.slice A 8 c] 22)).alloc (.cells #[.int .i64 225] 3)).alloc (.cells #[.int .i64 1, .int .i64 253, .int .i64 16, .int .i64 193, .int .i64 256, .int .i64 4, .int .i64 241, .int .i64 64] 45)) ((((w.alloc (.cells #[.slice A 8 c] 22)).alloc (.cells #[.int .i64 225] 3)).alloc (.cells #[.int .i64 1, .int .i64 253, .int .i64 16, .int .i64 193, .int .i64 256, .int .i64 4, .int .i64 241, .int .i64 64] 45)).alloc (.cells #[.int .i64 0, .int .i64 0, .int .i64 0, .int .i64 0, .int .i64 0, .int .i64 0, .int .i64 0, .int .i64 0] 3)) := (Below.refl _ _).alloc (by simp) _
  have hbw : Below w.heap.size w (((w.alloc (.cells #[.slice A 8 c] 22)).alloc (.cells #[.int .i64 225] 3)).alloc (.cells #[.int .i64 1, .int .i64 253, .int .i64 16, .int .i64 193, .int .i64 256, .int .i64 4, .int .i64 241, .int .i64 64] 45)) := by go_grown
  obtain ⟨W0, hW0⟩ : ∃ W0, W0 = (((w.alloc (.cells #[.slice A 8 c] 22)).alloc (.cells #[.int .i64 225] 3)).alloc (.cells #[.int .i64 1, .int .i64 253, .int .i64 16, .int .i64 193, .int .i64 256, .int .i64 4, .int .i64 241, .int .i64 64] 45)) := ⟨_, rfl⟩
  go_enter Try.func22, Try.ntmps22
  go_wp2
  go_rounds 9
  rw [← hW0] at hbox hfac hpow hrd hown0 hb0 hbw ⊢
  clear hmk hW0
  go_loopw [28] (fun i wr => ∃ k : Nat, k ≤ 8 ∧ i = .int .i64 k ∧ Own wr (w.heap.size + 1 + 1 + 1) (some ⟨(w.heap.size + 1 + 1 + 1), 0, none⟩) 8 8 (turnK 253 225 L k) ∧ Below (w.heap.size + 1 + 1 + 1) W0 wr) (fun i _ => 8 - (intOf i).toNat)
  case atStart => exact ⟨0, Nat.zero_le _, rfl, hown0.out, hb0⟩
  case round =>
    obtain ⟨k, hk, rfl, hown, hb⟩ := hrel
    by_cases hlt : k < 8
    · have c1 : wr.cell? ⟨w.heap.size, 0, none⟩ = some (.slice A 8 c) := (hb.cell (p := ⟨w.heap.size, 0, none⟩) (by show w.heap.size < _; omega)).trans hbox.out
      have c2 : wr.cell? ⟨w.heap.size + 1, 0, none⟩ = some (.int .i64 225) := (hb.cell (p := ⟨w.heap.size + 1, 0, none⟩) (by show w.heap.size + 1 < _; omega)).trans hfac.out
      have c3 : Hid (∀ j, j < 8 → wr.cell? ⟨w.heap.size + 1 + 1, j, none⟩ = some (.int .i64 (pwl 253 j))) := fun j hj => (hb.cell (p := ⟨w.heap.size + 1 + 1, j, none⟩) (by show w.heap.size + 1 + 1 < _; omega)).trans (hpow.out j hj)
      have c4 := hown.cell hlt
      have c5 := hown.free k
      have c6 : Hid (Rd wr B A 8 L) := hrd.out.keep fun p hp => hb.cell (by omega)
      go_wp2_with (go_at_call 30; refine (c_at k hlt _ _ _ A c L 253 225 B _ c1 c6.out h8 c3.out c2 (by omega) (by omega)).mono ?_; rintro e w' ⟨rfl, rfl⟩)
      go_roundw
      case rel => exact ⟨k + 1, by omega, by go_num, by rw [← turnK_succ]; exact hown.set k _, hb.setCell (Nat.le_refl _) _⟩
      case measure => simp [intOf]; omega
    · obtain rfl : k = 8 := by omega
      rw [turnK_all] at hown
      go_wp2
      go_ret
      exact ⟨rfl, hown, hbw.trans (hb.mono (by omega))⟩

theorem eight_any {L : List Int} (h : Eight L) : anyB L 0 256 = false := by
  apply anyB_false_of
  intro n hn
  obtain ⟨k, hk, rfl⟩ := List.getElem_of_mem hn
  have := h.2 k (by rw [← h.1]; exact hk)
  unfold nth at this
  simpa [List.getD, List.getElem?_eq_getElem hk] using this
theorem eight_any_not {L : List Int} (hl : L.length = 8) (h : ¬ Eight L) : anyB L 0 256 = true := by
  cases e : anyB L 0 256
  · exact absurd ⟨hl, fun k hk => anyB_false e _ (nth_mem (by rw [hl]; exact hk))⟩ h
  · rfl
theorem c_NCheck_ok (A : Option Addr) (n c : Nat) (L : List Int) (B : Nat) (w : World) (hL : Rd w B A n L) (h8 : Eight L) :
    Calls Try.prog 21 #[.slice A n c] w fun e w' => e = .returned .nilIface ∧ w = w' := by
  have ha := eight_any h8
  obtain rfl : n = 8 := by rw [← hL.1]; exact h8.1
  have H8 := Lib.hid h8
  clear h8
  go_enter Try.func21, Try.ntmps21
  go_wp2_with (go_at_call 29; refine (c_Any _ _ _ L _ _ _ _ hL (by omega)).mono ?_; rintro e w' ⟨rfl, rfl⟩)
  go_ret
  exact ⟨rfl, rfl⟩
theorem c_NCheck_bad (A : Option Addr) (n c : Nat) (L : List Int) (B : Nat) (w : World) (hL : Rd w B A n L) (h8 : ¬ Eight L) :
    Calls Try.prog 21 #[.slice A n c] w fun e w' => e = .returned (.iface 44 (.int .i64 (eightE L))) ∧ w = w' := by
  by_cases hn : n = 8
  · subst hn
    have ha := eight_any_not hL.1 h8
    have HE : Hid (eightE L = 1) := by unfold eightE; rw [if_neg (by simp [hL.1])]; rfl
    clear h8
    go_enter Try.func21, Try.ntmps21
    go_wp2_with (go_at_call 29; refine (c_Any _ _ _ L _ _ _ _ hL (by omega)).mono ?_; rintro e w' ⟨rfl, rfl⟩)
    go_ret
    exact ⟨by rw [HE.out]; rfl, rfl⟩
  · have HE : Hid (eightE L = 3) := by unfold eightE; rw [if_pos (by rw [hL.1]; exact hn)]; rfl
    clear h8
    go_enter Try.func21, Try.ntmps21
    go_wp2
    go_ret
    exact ⟨by rw [HE.out]; rfl, rfl⟩
theorem c_There_ok (A : Option Addr) (n c : Nat) (L : List Int) (B : Nat) (w : World) (hL : Rd w B A n L) (hB : B ≤ w.heap.size) (h8 : Eight L) :
    Calls Try.prog 10 #[.slice A n c] w fun e w' => ∃ g, e = .returned (.tuple #[.slice (some ⟨g, 0, none⟩) 8 8, .nilIface]) ∧ Own w' w.heap.size (some ⟨g, 0, none⟩) 8 8 (turnL 64 1 L) ∧ Below w.heap.size w w' := by
  obtain rfl : n = 8 := by rw [← hL.1]; exact h8.1
  have H8 := Lib.hid h8
  clear h8
  go_enter Try.func10, Try.ntmps10
  go_wp2_with (first | (go_at_call 21; refine (c_NCheck_ok _ _ _ L _ _ hL H8.out).mono ?_; rintro e w' ⟨rfl, rfl⟩) | (go_at_call 22; refine (c_turn_there _ _ L _ _ hL hB H8.out).mono ?_; rintro e w1 ⟨rfl, hown, hb⟩))
  go_ret2
  exact ⟨_, rfl, hown.base_le (by omega), hb⟩
theorem c_There_bad (A : Option Addr) (n c : Nat) (L : List Int) (B : Nat) (w : World) (hL : Rd w B A n L) (h8 : ¬ Eight L) :
    Calls Try.prog 10 #[.slice A n c] w fun e w' => e = .returned (.tuple #[.slice none 0 0, .iface 44 (.int .i64 (eightE L))]) ∧ Below w.heap.size w w' := by
  have H8 := Lib.hid h8
  clear h8
  go_enter Try.func10, Try.ntmps10
  go_wp2_with (go_at_call 21; refine (c_NCheck_bad _ _ _ L _ _ hL H8.out).mono ?_; rintro e w' ⟨rfl, rfl⟩)
  go_ret2
  exact ⟨rfl, Below.refl _ _⟩
theorem c_Back_ok (A : Option Addr) (n c : Nat) (L : List Int) (B : Nat) (w : World) (hL : Rd w B A n L) (hB : B ≤ w.heap.size) (h8 : Eight L) :
    Calls Try.prog 11 #[.slice A n c] w fun e w' => ∃ g, e = .returned (.tuple #[.slice (some ⟨g, 0, none⟩) 8 8, .nilIface]) ∧ Own w' w.heap.size (some ⟨g, 0, none⟩) 8 8 (turnL 253 225 L) ∧ Below w.heap.size w w' := by
  obtain rfl : n = 8 := by rw [← hL.1]; exact h8.1
  have H8 := Lib.hid h8
  clear h8
  go_enter Try.func11, Try.ntmps11
  go_wp2_with (first | (go_at_call 21; refine (c_NCheck_ok _ _ _ L _ _ hL H8.out).mono ?_; rintro e w' ⟨rfl, rfl⟩) | (go_at_call 22; refine (c_turn_back _ _ L _ _ hL hB H8.out).mono ?_; rintro e w1 ⟨rfl, hown, hb⟩))
  go_ret2
  exact ⟨_, rfl, hown.base_le (by omega), hb⟩
theorem c_Back_bad (A : Option Addr) (n c : Nat) (L : List Int) (B : Nat) (w : World) (hL : Rd w B A n L) (h8 : ¬ Eight L) :
    Calls Try.prog 11 #[.slice A n c] w fun e w' => e = .returned (.tuple #[.slice none 0 0, .iface 44 (.int .i64 (eightE L))]) ∧ Below w.heap.size w w' := by
  have H8 := Lib.hid h8
  clear h8
  go_enter Try.func11, Try.ntmps11
  go_wp2_with (go_at_call 21; refine (c_NCheck_bad _ _ _ L _ _ hL H8.out).mono ?_; rintro e w' ⟨rfl, rfl⟩)
  go_ret2
  exact ⟨rfl, Below.refl _ _⟩
theorem t_turn_there (A : Option Addr) (c : Nat) (L : List Int) (B : Nat) (w : World) (hL : Rd w B A 8 L) (hB : B ≤ w.heap.size) (h8 : Eight L) :
    Calls Try.prog 22 #[.slice A 8 c, .int .i64 64, .int .i64 1] w fun e w' => ∃ g, e = .returned (.slice (some ⟨g, 0, none⟩) 8 8) ∧ Own w' w.heap.size (some ⟨g, 0, none⟩) 8 8 (turnL 64 1 L) ∧ Below w.heap.size w w' :=
  (c_turn_there A c L B w hL hB h8).mono fun _ _ ⟨he, ho, hb⟩ => ⟨_, he, ho.base_le (by omega), hb⟩
theorem t_turn_back (A : Option Addr) (c : Nat) (L : List Int) (B : Nat) (w : World) (hL : Rd w B A 8 L) (hB : B ≤ w.heap.size) (h8 : Eight L) :
    Calls Try.prog 22 #[.slice A 8 c, .int .i64 253, .int .i64 225] w fun e w' => ∃ g, e = .returned (.slice (some ⟨g, 0, none⟩) 8 8) ∧ Own w' w.heap.size (some ⟨g, 0, none⟩) 8 8 (turnL 253 225 L) ∧ Below w.heap.size w w' :=
  (c_turn_back A c L B w hL hB h8).mono fun _ _ ⟨he, ho, hb⟩ => ⟨_, he, ho.base_le (by omega), hb⟩
theorem c_NFold_bad1 (A A' : Option Addr) (n c n' c' : Nat) (L M : List Int) (B B' : Nat) (w : World) (hL : Rd w B A n L) (hM : Rd w B' A' n' M) (h8 : ¬ Eight L) :
    Calls Try.prog 15 #[.slice A n c, .slice A' n' c'] w fun e w' => e = .returned (.tuple #[.slice none 0 0, .iface 44 (.int .i64 (eightE L))]) ∧ Below w.heap.size w w' := by
  have H8 := Lib.hid h8
  clear h8
  by_cases h8' : Eight M
  · have H8' := Lib.hid h8'
    clear h8'
    go_enter Try.func15, Try.ntmps15
    go_wp2_with fail
    refine (c_NCheck_bad _ _ _ L _ _ hL H8.out).mono ?_
    rintro e w' ⟨rfl, rfl⟩
    go_wp2_with fail
    refine (c_NCheck_ok _ _ _ M _ _ hM H8'.out).mono ?_
    rintro e w' ⟨rfl, rfl⟩
    go_wp2_with (go_at_call 23; refine (c_First_one _ _ 44 (.int .i64 (eightE L)) _ (by simp)).mono ?_; rintro e w' ⟨rfl, rfl⟩)
    go_ret2
    exact ⟨rfl, by go_grown⟩
  · have H8' := Lib.hid h8'
    clear h8'
    go_enter Try.func15, Try.ntmps15
    go_wp2_with fail
    refine (c_NCheck_bad _ _ _ L _ _ hL H8.out).mono ?_
    rintro e w' ⟨rfl, rfl⟩
    go_wp2_with fail
    refine (c_NCheck_bad _ _ _ M _ _ hM H8'.out).mono ?_
    rintro e w' ⟨rfl, rfl⟩
    go_wp2_with (go_at_call 23; refine (c_First_one _ _ 44 (.int .i64 (eightE L)) _ (by simp)).mono ?_; rintro e w' ⟨rfl, rfl⟩)
    go_ret2
    exact ⟨rfl, by go_grown⟩
theorem c_NFold_bad2 (A A' : Option Addr) (n c n' c' : Nat) (L M : List Int) (B B' : Nat) (w : World) (hL : Rd w B A n L) (hM : Rd w B' A' n' M) (h8 : Eight L) (h8' : ¬ Eight M) :
    Calls Try.prog 15 #[.slice A n c, .slice A' n' c'] w fun e w' => e = .returned (.tuple #[.slice none 0 0, .iface 44 (.int .i64 (eightE M))]) ∧ Below w.heap.size w w' := by
  have H8 := Lib.hid h8
  have H8' := Lib.hid h8'
  clear h8 h8'
  go_enter Try.func15, Try.ntmps15
  go_wp2_with fail
  refine (c_NCheck_ok _ _ _ L _ _ hL H8.out).mono ?_
  rintro e w' ⟨rfl, rfl⟩
  go_wp2_with fail
  refine (c_NCheck_bad _ _ _ M _ _ hM H8'.out).mono ?_
  rintro e w' ⟨rfl, rfl⟩
  go_wp2_with (go_at_call 23; refine (c_First_two _ _ 44 (.int .i64 (eightE M)) _ (by simp) (by simp)).mono ?_; rintro e w' ⟨rfl, rfl⟩)
  go_ret2
  exact ⟨rfl, by go_grown⟩
set_option maxHeartbeats 1000000 in
theorem c_NFold_ok (A A' : Option Addr) (n c n' c' : Nat) (L M : List Int) (B B' : Nat) (w : World) (hL : Rd w B A n L) (hM : Rd w B' A' n' M) (hB : B ≤ w.heap.size) (hB' : B' ≤ w.heap.size) (h8 : Eight L) (h8' : Eight M) :
    Calls Try.prog 15 #[.slice A n c, .slice A' n' c'] w fun e w' => ∃ g, e = .returned (.tuple #[.slice (some ⟨g, 0, none⟩) 8 8, .nilIface]) ∧ Own w' w.heap.size (some ⟨g, 0, none⟩) 8 8 (foldL L M) ∧ Below w.heap.size w w' := by
  obtain rfl : n = 8 := by rw [← hL.1]; exact h8.1
  obtain rfl : n' = 8 := by rw [← hM.1]; exact h8'.1
  have H8 := Lib.hid h8
  have H8' := Lib.hid h8'
  have HL := Lib.hid hL
  have HM := Lib.hid hM
  clear h8 h8' hL hM
  go_enter Try.func15, Try.ntmps15
  go_wp2_with fail
  refine (c_NCheck_ok _ _ _ L _ _ HL.out H8.out).mono ?_
  rintro e w' ⟨rfl, rfl⟩
  go_wp2_with fail
  refine (c_NCheck_ok _ _ _ M _ _ HM.out H8'.out).mono ?_
  rintro e w' ⟨rfl, rfl⟩
  go_wp2_with (go_at_call 23; refine (c_First_nil _ _ _ (by simp) (by simp)).mono ?_; rintro e w' ⟨rfl, rfl⟩)
  have hb0 : Below w.heap.size w (w.alloc (.cells #[.nilIface, .nilIface] 25)) := by go_grown
  refine (t_turn_there _ _ L _ _ (HL.out.alloc hB _) (by simp; omega) H8.out).mono ?_
  rintro e w1 ⟨gx, rfl, ox, hb⟩
  have hb1 := hb0.trans (hb.mono (by simp))
  have Ox := Lib.hid (ox.base_le (base' := w.heap.size) (by simp))
  have hlx := ox.lt.2
  clear ox hb
  go_wp2_with fail
  refine (t_turn_there _ _ M _ _ (HM.out.keep fun p hp => hb1.cell (by omega)) (by have := hb1.size; omega) H8'.out).mono ?_
  rintro e w2 ⟨gy, rfl, oy, hb⟩
  have hb2 := hb1.trans (hb.mono hb1.size)
  have Ox2 := Lib.hid (Ox.out.keep hb)
  have Oy := Lib.hid oy
  have hxy : gx < gy := Nat.lt_of_lt_of_le hlx oy.lt.1
  have hgx : w.heap.size ≤ gx := Ox.out.lt.1
  clear oy hb Ox
  have HX8 : Hid (Eight (turnL 64 1 L)) := turnL_eight _ _ _
  have HY8 : Hid (Eight (turnL 64 1 M)) := turnL_eight _ _ _
  have HF : Hid (foldL L M = turnL 253 225 (mulL (turnL 64 1 L) (turnL 64 1 M))) := rfl
  obtain ⟨X, hX⟩ : ∃ X, X = turnL 64 1 L := ⟨_, rfl⟩
  obtain ⟨Y, hY⟩ : ∃ Y, Y = turnL 64 1 M := ⟨_, rfl⟩
  rw [← hX] at Ox2 HX8 HF
  rw [← hY] at Oy HY8 HF
  clear hX hY
  rw [← mulK_zero X Y HX8.out.1] at Ox2
  go_wp2
  go_loopw [25] (fun i wr => ∃ k : Nat, k ≤ 8 ∧ i = .int .i64 k ∧ Hid (Own wr w.heap.size (some ⟨gx, 0, none⟩) 8 8 (mulK X Y k)) ∧ Hid (Own wr w1.heap.size (some ⟨gy, 0, none⟩) 8 8 Y) ∧ Below w.heap.size w wr) (fun i _ => 8 - (intOf i).toNat)
  case atStart => exact ⟨0, Nat.zero_le _, rfl, Ox2.out, Oy.out, hb2⟩
  case round =>
    obtain ⟨k, hk, rfl, hox, hoy, hbr⟩ := hrel
    by_cases hlt : k < 8
    · have c1 : wr.cell? ⟨gx, k, none⟩ = some (.int .i64 (nth X k)) := by
        rw [hox.out.cell hlt, mulK_nth X Y k hlt, if_neg (by omega)]
      have c2 := hoy.out.cell hlt
      have c3 := hox.out.free k
      have hp := prod_bd _ _ (HX8.out.2 k hlt) (HY8.out.2 k hlt)
      have HS := Lib.hid (mulK_succ X Y hlt)
      obtain ⟨x, hx⟩ : ∃ x, x = nth X k := ⟨_, rfl⟩
      obtain ⟨y, hy⟩ : ∃ y, y = nth Y k := ⟨_, rfl⟩
      rw [← hx] at c1 hp HS
      rw [← hy] at c2 hp HS
      clear hx hy
      go_wp2
      go_region
      go_wp2
      go_roundw
      case rel =>
        refine ⟨k + 1, by omega, by go_num, ?_, ?_, ?_⟩
        · rw [← HS.out]; exact hox.out.set k _
        · exact hoy.out.keep_set (p := ⟨gx, k, none⟩) (show gx ≠ gy by omega) _
        · exact (hbr.setCell (p := ⟨gx, k, none⟩) (show w.heap.size ≤ gx from hgx) _).drew
      case measure => simp [intOf]; omega
    · obtain rfl : k = 8 := by omega
      rw [mulK_all] at hox
      go_wp2_with fail
      refine (t_turn_back _ _ _ _ _ hox.out.rd (Nat.le_refl _) (mulL_eight _ _)).mono ?_
      rintro e w3 ⟨g, rfl, o, hb⟩
      go_wp2
      go_ret2
      exact ⟨g, rfl, by rw [HF.out]; exact o.base_le hbr.size, hbr.trans (hb.mono hbr.size)⟩
end Go.Proofs.Ytmicgjpelikjiaa
