/- The contracts of num.Grid (three rows of three), num.Copy (of such), and of the closure that puts rows of coefficients into a matrix. -/
import Derived.Test.YtcbpkjmmacgmfaaMat
namespace Go.Proofs.Ytcbpkjmmacgmfaa
open Go.RowKit

theorem upd_upd {α : Type} (f : Nat → α) (n : Nat) (a b : α) : upd (upd f n a) n b = upd f n b := by
  funext i
  unfold upd
  split <;> rfl
set_option maxHeartbeats 1000000 in
theorem c_Grid (w : World) :
    Calls Try.prog 25 #[.int .i64 3, .int .i64 3] w fun e w' => ∃ (G : Nat) (r c : Nat → Nat) (L : Nat → List Int), e = .returned (.slice (some ⟨G, 0, none⟩) 3 3) ∧ PX w' w.heap.size G 3 r c L ∧ (∀ i, i < 3 → L i = [0, 0, 0]) ∧ Below w.heap.size w w' := by
  have hmk : ∀ w, (Instr.makeSlice 45 (.int .i64 3) (.int .i64 3)).run Try.prog w = .ok (.slice (some ⟨w.heap.size, 0, none⟩) 3 3) (w.alloc (.cells #[.slice none 0 0, .slice none 0 0, .slice none 0 0] 22)) := fun _ => by kernel_rfl
  have hmk2 : ∀ w, (Instr.makeSlice 22 (.int .i64 3) (.int .i64 3)).run Try.prog w = .ok (.slice (some ⟨w.heap.size, 0, none⟩) 3 3) (w.alloc (.cells #[.int .i64 0, .int .i64 0, .int .i64 0] 3)) := fun _ => by kernel_rfl
  obtain ⟨W, hW⟩ : ∃ W, W = w.heap.size := ⟨_, rfl⟩
  have P0 : Hid (PX (w.alloc (.cells #[.slice none 0 0, .slice none 0 0, .slice none 0 0] 22)) w.heap.size W 0 (fun _ => 0) (fun _ => 0) (fun _ => [])) := by rw [Hid, hW]; exact PX.start (Nat.le_refl _) _ _ _ _
  have B0 : Hid (Below w.heap.size w (w.alloc (.cells #[.slice none 0 0, .slice none 0 0, .slice none 0 0] 22))) := (Below.refl _ w).alloc (Nat.le_refl _) _
  go_enter Try.func25, Try.ntmps25
  go_wp2
  rw [← hW]
  clear hW
  go_loopw [11] (fun i wr => ∃ (n : Nat) (r c : Nat → Nat) (L : Nat → List Int), n ≤ 3 ∧ i = .int .i64 n ∧ Hid (PX wr w.heap.size W n r c L) ∧ Hid (∀ i, i < n → L i = [0, 0, 0]) ∧ Below w.heap.size w wr) (fun i _ => 3 - (intOf i).toNat)
  case atStart => exact ⟨0, _, _, _, by omega, rfl, P0.out, fun i hi => absurd hi (by omega), B0.out⟩
  case round =>
    obtain ⟨n, r, c, L, hn, rfl, HP, HZ, hbr⟩ := hrel
    by_cases hlt : n < 3
    · have hs := hbr.size
      have HP1 := Lib.hid (HP.out.alloc (.cells #[.int .i64 0, .int .i64 0, .int .i64 0] 3))
      have x1 := HP1.out.2.1 n (Nat.le_refl _) hlt
      have x2 := HP1.out.2.2.1 n hlt
      have o1 : Own (wr.alloc (.cells #[.int .i64 0, .int .i64 0, .int .i64 0] 3)) w.heap.size (some ⟨wr.heap.size, 0, none⟩) 3 3 [0, 0, 0] := (own_new wr [0, 0, 0] 3 rfl (by omega)).base_le hs
      have HN := Lib.hid (HP1.out.next hlt o1 (fun i hi => by have := (HP.out.lt hi).2; omega) (by have := HP.out.2.2.2.2.2.2.2; omega))
      have HB := Lib.hid ((hbr.alloc hs (.cells #[.int .i64 0, .int .i64 0, .int .i64 0] 3)).setCell (p := ⟨W, n, none⟩) (HP.out.2.2.2.2.2.2.1) (.slice (some ⟨wr.heap.size, 0, none⟩) 3 3))
      have HZ' : Hid (∀ i, i < n + 1 → upd L n [0, 0, 0] i = [0, 0, 0]) := fun i hi => by
        by_cases e : i = n
        · subst e; exact upd_same _ _ _
        · rw [upd_other _ _ e]; exact HZ.out i (by omega)
      clear o1
      go_wp2
      go_roundw
      case rel => exact ⟨n + 1, _, _, _, by omega, by go_num, HN.out, HZ'.out, HB.out⟩
      case measure => simp [intOf]; omega
    · obtain rfl : n = 3 := by omega
      go_wp2
      go_ret
      exact ⟨W, r, c, L, rfl, HP.out, HZ.out, hbr⟩
set_option maxHeartbeats 2000000 in
theorem c_MCopy (w : World) (base G : Nat) (r c : Nat → Nat) (L : Nat → List Int) (h : PX w base G 3 r c L) :
    Calls Try.prog 28 #[.slice (some ⟨G, 0, none⟩) 3 3] w fun e w' => ∃ (G' : Nat) (r' c' : Nat → Nat) (L' : Nat → List Int), e = .returned (.slice (some ⟨G', 0, none⟩) 3 3) ∧ PX w' w.heap.size G' 3 r' c' L' ∧ (∀ i, i < 3 → L' i = L i) ∧ Below w.heap.size w w' := by
  have hmk : ∀ w, (Instr.makeSlice 45 (.int .i64 3) (.int .i64 3)).run Try.prog w = .ok (.slice (some ⟨w.heap.size, 0, none⟩) 3 3) (w.alloc (.cells #[.slice none 0 0, .slice none 0 0, .slice none 0 0] 22)) := fun _ => by kernel_rfl
  obtain ⟨W, hW⟩ : ∃ W, W = w.heap.size := ⟨_, rfl⟩
  have P0 : Hid (PX (w.alloc (.cells #[.slice none 0 0, .slice none 0 0, .slice none 0 0] 22)) w.heap.size W 0 (fun _ => 0) (fun _ => 0) (fun _ => [])) := by rw [Hid, hW]; exact PX.start (Nat.le_refl _) _ _ _ _
  have B0 : Hid (Below w.heap.size w (w.alloc (.cells #[.slice none 0 0, .slice none 0 0, .slice none 0 0] 22))) := (Below.refl _ w).alloc (Nat.le_refl _) _
  have HS := Lib.hid h
  clear h
  go_enter Try.func28, Try.ntmps28
  go_wp2
  rw [← hW]
  clear hW
  go_loopw [11] (fun i wr => ∃ (n : Nat) (r c : Nat → Nat) (L' : Nat → List Int), n ≤ 3 ∧ i = .int .i64 n ∧ Hid (PX wr w.heap.size W n r c L') ∧ Hid (∀ i, i < n → L' i = L i) ∧ Below w.heap.size w wr) (fun i _ => 3 - (intOf i).toNat)
  case atStart => exact ⟨0, _, _, _, by omega, rfl, P0.out, fun i hi => absurd hi (by omega), B0.out⟩
  case round =>
    obtain ⟨n, r', c', L', hn, rfl, HP, HZ, hbr⟩ := hrel
    by_cases hlt : n < 3
    · have hs := hbr.size
      have HSr := Lib.hid (HS.out.keep hbr)
      have y1 := HSr.out.1 n hlt
      have RD := Lib.hid (HSr.out.2.2.2.1 n hlt).rd
      obtain ⟨rn, hrn⟩ : ∃ x, x = r n := ⟨_, rfl⟩
      obtain ⟨cn, hcn⟩ : ∃ x, x = c n := ⟨_, rfl⟩
      rw [← hrn, ← hcn] at y1
      rw [← hrn] at RD
      have ON := Lib.hid (Own.nil wr wr.heap.size)
      clear hrn hcn
      go_wp2_with (at_builtin; refine wp_append_list rfl (.const (.slice none 0 0)) (.tmp 18) rfl wr.heap.size rfl rfl ON.out RD.out (by omega) (by omega) (Nat.le_refl _) ?_)
      intro A4 c4 w4 o4 hb4
      obtain ⟨g, rfl, g1, g2⟩ := o4.form (by omega)
      have O4 : Hid (Own w4 w.heap.size (some ⟨g, 0, none⟩) 3 c4 (L n)) := o4.base_le hs
      have HP4 := Lib.hid (HP.out.keep hb4)
      have hb5 := hbr.trans (hb4.mono hs)
      have x1 := HP4.out.2.1 n (Nat.le_refl _) hlt
      have x2 := HP4.out.2.2.1 n hlt
      have HN := Lib.hid (HP4.out.next hlt O4.out (fun i hi => by have := (HP.out.lt hi).2; omega) (by have := HP.out.2.2.2.2.2.2.2; omega))
      have HB := Lib.hid (hb5.setCell (p := ⟨W, n, none⟩) (HP.out.2.2.2.2.2.2.1) (.slice (some ⟨g, 0, none⟩) 3 c4))
      have HZ' : Hid (∀ i, i < n + 1 → upd L' n (L n) i = L i) := fun i hi => by
        by_cases e : i = n
        · subst e; exact upd_same _ _ _
        · rw [upd_other _ _ e]; exact HZ.out i (by omega)
      clear o4 hb4 hbr y1
      go_wp2
      go_roundw
      case rel => exact ⟨n + 1, _, _, _, by omega, by go_num, HN.out, HZ'.out, HB.out⟩
      case measure => simp [intOf]; omega
    · obtain rfl : n = 3 := by omega
      go_wp2
      go_ret
      exact ⟨W, r', c', L', rfl, HP.out, HZ.out, hbr⟩
/-- A row of coefficients put into a row of the matrix, i places on, from the top one; k of them. -/
def rput (R l : List Int) (i : Nat) : Nat → List Int
  | 0 => R
  | k + 1 => (rput R l i k).set (i + l.length - 1 - k) (nth l k)
/-- .. into i rows from a row on. -/
def mput (L : Nat → List Int) (from' : Nat) (l : List Int) : Nat → Nat → List Int
  | 0 => L
  | i + 1 => upd (mput L from' l i) (from' + i) (rput (mput L from' l i (from' + i)) l i l.length)
set_option maxHeartbeats 4000000 in
set_option maxRecDepth 100000 in
theorem c_put (w : World) (base G Bx fr mn m cl B : Nat) (A : Option Addr) (r c : Nat → Nat) (L : Nat → List Int) (l : List Int) (h : PX w base G 3 r c L) (hx : w.cell? ⟨Bx, 0, none⟩ = some (.slice (some ⟨G, 0, none⟩) 3 3)) (hxr : ∀ i, i < 3 → Bx ≠ r i) (hl : Rd w B A m l) (hB : B ≤ base) (h1 : fr + mn ≤ 3) (h2 : mn + m ≤ 4) (h3 : 1 ≤ m) :
    Calls Try.prog 26 #[.int .i64 fr, .int .i64 mn, .slice A m cl, .pointer (some ⟨Bx, 0, none⟩)] w fun e w' => e = .returned (.tuple #[]) ∧ PX w' base G 3 r c (mput L fr l mn) ∧ w'.cell? ⟨Bx, 0, none⟩ = some (.slice (some ⟨G, 0, none⟩) 3 3) ∧ Below base w w' := by
  have HP := Lib.hid h
  have HL := Lib.hid hl
  have HX := Lib.hid hxr
  have hbw : Below base w w := Below.refl _ _
  clear h hl hxr
  go_enter Try.func26, Try.ntmps26
  go_wp2
  go_loopw [11] (fun s wr => ∃ i : Nat, i ≤ mn ∧ s = .int .i64 i ∧ Hid (PX wr base G 3 r c (mput L fr l i)) ∧ wr.cell? ⟨Bx, 0, none⟩ = some (.slice (some ⟨G, 0, none⟩) 3 3) ∧ Below base w wr) (fun s _ => mn - (intOf s).toNat)
  case atStart => exact ⟨0, Nat.zero_le _, rfl, HP.out, hx, hbw⟩
  case round =>
    obtain ⟨i, hi, rfl, HI, hxi, hbr⟩ := hrel
    by_cases hlt : i < mn
    · have hp : fr + i < 3 := by omega
      obtain ⟨R, hR⟩ : ∃ R, R = mput L fr l i (fr + i) := ⟨_, rfl⟩
      have HI0 : Hid (PX wr base G 3 r c (upd (mput L fr l i) (fr + i) (rput R l i 0))) := HI.out.congr fun j _ => by
        unfold upd
        split
        · rename_i e; rw [e, hR]; rfl
        · rfl
      have HE : Hid (mput L fr l (i + 1) = upd (mput L fr l i) (fr + i) (rput R l i m)) := by
        rw [Hid, hR, ← HL.out.1]; rfl
      have HRL : Hid (∀ k, (rput R l i k).length = 3) := fun k => by
        induction k with
        | zero => rw [hR]; exact (HI.out.2.2.2.1 (fr + i) hp).1
        | succ k ih => show ((rput R l i k).set _ _).length = 3; rw [List.length_set]; exact ih
      clear hR
      go_wp2
      go_loopw [16] (fun s wr => ∃ k : Nat, k ≤ m ∧ s = .int .i64 k ∧ Hid (PX wr base G 3 r c (upd (mput L fr l i) (fr + i) (rput R l i k))) ∧ wr.cell? ⟨Bx, 0, none⟩ = some (.slice (some ⟨G, 0, none⟩) 3 3) ∧ Below base w wr) (fun s _ => m - (intOf s).toNat)
      case atStart => exact ⟨0, Nat.zero_le _, rfl, HI0.out, hxi, hbr⟩
      case round =>
        obtain ⟨k, hk, rfl, HK, hxk, hbk⟩ := hrel
        by_cases hlt' : k < m
        · obtain ⟨b, off, rfl, hc⟩ := (HL.out.keep fun p hp => hbk.cell (by omega)).at_ hlt'
          obtain ⟨q, hq⟩ : ∃ q, q = i + m - 1 - k := ⟨_, rfl⟩
          have hq3 : q < 3 := by omega
          have hqi : (i : Int) + (m : Int) - 1 - (k : Int) = (q : Int) := by omega
          have y1 := HK.out.1 (fr + i) hp
          have ow := HK.out.2.2.2.1 (fr + i) hp
          have y2 := ow.cell hq3
          have y3 := ow.free q
          have HS := Lib.hid (HK.out.set hp q (nth l k))
          rw [upd_same, upd_upd] at HS
          have ER : Hid ((rput R l i k).set q (nth l k) = rput R l i (k + 1)) := by rw [Hid, hq, ← HL.out.1]; rfl
          rw [ER.out] at HS
          have hX1 := HX.out (fr + i) hp
          have hb2 := HK.out.lt hp
          obtain ⟨rp, hrp⟩ : ∃ x, x = r (fr + i) := ⟨_, rfl⟩
          obtain ⟨cp', hcp⟩ : ∃ x, x = c (fr + i) := ⟨_, rfl⟩
          rw [← hrp] at hX1 hb2 HS y1 y2 y3
          rw [← hcp] at y1
          obtain ⟨v, hv⟩ : ∃ v, v = nth l k := ⟨_, rfl⟩
          rw [← hv] at hc HS
          have hxn : Hid ((wr.setCell ⟨rp, q, none⟩ (.int .i64 v)).cell? ⟨Bx, 0, none⟩ = some (.slice (some ⟨G, 0, none⟩) 3 3)) := (World.cell?_setCell_other _ _ _ _ (by intro e; injection e with e _ _; exact hX1 e.symm)).trans hxk
          have HB := Lib.hid (hbk.setCell (p := ⟨rp, q, none⟩) hb2.1 (.int .i64 v))
          clear hq hrp hcp hv ow
          go_wp2
          go_roundw
          case rel => exact ⟨k + 1, by omega, by go_num, HS.out, hxn.out, HB.out⟩
          case measure => simp [intOf]; omega
        · obtain rfl : k = m := by omega
          have HE' : Hid (PX wr base G 3 r c (mput L fr l (i + 1))) := by rw [Hid, HE.out]; exact HK.out
          go_wp2
          go_roundw
          case rel => exact ⟨i + 1, by omega, by go_num, HE'.out, hxk, hbk⟩
          case measure => simp [intOf]; omega
    · obtain rfl : i = mn := by omega
      go_wp2
      go_end0
      exact ⟨rfl, HI.out, hxi, hbr⟩
end Go.Proofs.Ytcbpkjmmacgmfaa
