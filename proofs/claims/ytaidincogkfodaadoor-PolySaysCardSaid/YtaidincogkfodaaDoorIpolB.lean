/- The contract of package ipol's steps. -/
import Derived.Test.YtaidincogkfodaaDoorIpolA
namespace Go.Proofs.YtaidincogkfodaaDoor
open Go.RowKit

theorem dd_bd {x y : Nat → Int} (h : ∀ j, 0 ≤ y j ∧ y j < 9973) (k i : Nat) : 0 ≤ dd x y k i ∧ dd x y k i < 9973 := by
  cases k with
  | zero => exact h i
  | succ k => exact emod_pl _
/-- The differences so far: stage k, done from m on. -/
def dvl (x y : Nat → Int) (n k m : Nat) : List Int := mk n fun j => dd x y (min j (if m ≤ j then k else k - 1)) j
theorem dvl_len (x y : Nat → Int) (n k m : Nat) : (dvl x y n k m).length = n := mk_len _ _
theorem dvl_start (x : Nat → Int) (ys : List Int) (n : Nat) (h : ys.length = n) : ys = dvl x (nth ys) n 1 n := by
  conv => lhs; rw [← mk_of ys n h]
  refine mk_congr fun j hj => ?_
  rw [if_neg (by omega), show min j (1 - 1) = 0 by omega]; rfl
theorem dvl_next (x y : Nat → Int) (n k : Nat) (h : 1 ≤ k) : dvl x y n k k = dvl x y n (k + 1) n := by
  refine mk_congr fun j hj => ?_
  rw [if_neg (show ¬ n ≤ j by omega)]
  congr 1
  split <;> omega
theorem dvl_end (x y : Nat → Int) (n k : Nat) (h : 1 ≤ k) (h1 : n ≤ k) : dvl x y n k n = mk n fun j => dd x y j j := by
  refine mk_congr fun j hj => ?_
  rw [if_neg (show ¬ n ≤ j by omega)]
  congr 1
  omega
theorem dvl_at (x y : Nat → Int) (n k i : Nat) (h1 : k ≤ i) (h2 : i < n) : nth (dvl x y n k (i + 1)) i = dd x y (k - 1) i := by
  unfold dvl
  rw [mk_nth' _ h2, if_neg (by omega)]
  congr 1
  omega
theorem dvl_at' (x y : Nat → Int) (n k i : Nat) (h : 1 ≤ k) (h1 : k ≤ i) (h2 : i < n) : nth (dvl x y n k (i + 1)) (i - 1) = dd x y (k - 1) (i - 1) := by
  unfold dvl
  rw [mk_nth' _ (by omega), if_neg (by omega)]
  congr 1
  omega
theorem dvl_step (x y : Nat → Int) (n k i : Nat) (h : 1 ≤ k) (h1 : k ≤ i) : (dvl x y n k (i + 1)).set i ((dd x y (k - 1) i - dd x y (k - 1) (i - 1)) * pw ((x i - x (i - k)) % 9973) 9971 % 9973) = dvl x y n k i := by
  unfold dvl
  rw [mk_set]
  refine mk_congr fun j hj => ?_
  by_cases e : j = i
  · subst e
    rw [if_pos rfl, if_pos (Nat.le_refl _), show min j k = (k - 1) + 1 by omega]
    show _ = (dd x y (k - 1) j - dd x y (k - 1) (j - 1)) * pw ((x j - x (j - (k - 1 + 1))) % 9973) 9971 % 9973
    rw [show k - 1 + 1 = k by omega]
  · rw [if_neg e]
    by_cases h3 : i + 1 ≤ j
    · rw [if_pos h3, if_pos (by omega)]
    · rw [if_neg h3, if_neg (by omega)]
set_option maxHeartbeats 2000000 in
theorem c_dsteps (A : Option Addr) (n c c' : Nat) (xs ys : List Int) (w : World) (A' : Option Addr) (hn : n ≤ 6)
    (hL : Rd w w.heap.size A n xs) (px : PL xs) (py : PL ys) (hd : ∀ i j, i < j → j < n → nth xs i ≠ nth xs j) (hz : A' = none → c' = 0) (hM : Rd w w.heap.size A' n ys) (hc : n ≤ c) (hc' : n ≤ c') :
    Calls Tryd.prog 39 #[.slice A n c, .slice A' n c'] w fun e w' => ∃ (Ad : Option Addr) (cd : Nat), e = .returned (.slice Ad n cd) ∧ Own w' w.heap.size Ad n cd (mk n fun j => dd (nth xs) (nth ys) j j) ∧ Below w.heap.size w w' := by
  by_cases h0 : n = 0
  · subst h0
    have e0 : (mk 0 fun j => dd (nth xs) (nth ys) j j) = [] := rfl
    rw [e0]
    rcases A' with _ | ad
    · obtain rfl := hz rfl
      clear hz hM hL px py hd e0
      obtain ⟨i0, hi, hz0, hz1, hz2⟩ := info_parts infoInt
      go_enter Tryd.func39, Tryd.ntmps39
      go_wp2_with (at_builtin; refine wpList_append_own_none rfl (.const (.slice none 0 0)) (.tmp 9) 22 rfl w.heap.size 3 i0 1 Tryd.underlying22 hi (.slice none 0 0) 0 [] rfl (World.ownsRow_nil _ _ _ _) rfl ?_)
      go_loop [6] (fun k => k = .int .i64 1) (fun _ => 0)
      case atStart => rfl
      case round =>
        subst hrel
        go_wp2
        go_ret
        exact ⟨none, 0, rfl, Own.nil _ _, Below.refl _ _⟩
    · clear hz hM hL px py hd e0
      go_enter Tryd.func39, Tryd.ntmps39
      go_wp2
      go_loop [6] (fun k => k = .int .i64 1) (fun _ => 0)
      case atStart => rfl
      case round =>
        subst hrel
        go_wp2
        go_ret
        exact ⟨none, 0, rfl, Own.nil _ _, Below.refl _ _⟩
  · have h1 : 0 < n := by omega
    obtain ⟨b, off, rfl, hb, hcell⟩ := hM.at' h1
    have HS : Hid (ys = dvl (nth xs) (nth ys) n 1 n) := dvl_start _ _ _ hM.1
    have HM := Lib.hid hM
    have HL := Lib.hid hL
    have PX := Lib.hid px
    have DD := Lib.hid (fun k i => dd_bd (x := nth xs) (y := nth ys) py k i)
    have HD := Lib.hid hd
    clear hcell hM hL hz px py hd
    go_enter Tryd.func39, Tryd.ntmps39
    go_wp2_with (at_builtin; first | refine wp_append_list rfl (.const (.slice none 0 0)) (.tmp 8) rfl w.heap.size rfl rfl (Own.nil _ _) HM.out (by omega) (by omega) (Nat.le_refl _) ?_ | refine wp_append_list rfl (.const (.slice none 0 0)) (.tmp 9) rfl w.heap.size rfl rfl (Own.nil _ _) HM.out (by omega) (by omega) (Nat.le_refl _) ?_ | refine wp_append_list rfl (.const (.slice none 0 0)) (.tmp 10) rfl w.heap.size rfl rfl (Own.nil _ _) HM.out (by omega) (by omega) (Nat.le_refl _) ?_)
    intro A1 c1 w1 o hb1
    rw [HS.out] at o
    have O1 := Lib.hid (show Own w1 w.heap.size A1 n c1 (dvl (nth xs) (nth ys) n 1 n) by simpa using o)
    clear o
    go_wp2
    go_loopw [6] (fun s wr => ∃ k : Nat, 1 ≤ k ∧ k ≤ 6 ∧ s = .int .i64 k ∧ k ≤ n ∧ Hid (Own wr w.heap.size A1 n c1 (dvl (nth xs) (nth ys) n k n)) ∧ Below w.heap.size w wr) (fun s _ => 6 - (intOf s).toNat)
    case atStart => exact ⟨1, Nat.le_refl _, by omega, rfl, by omega, O1, hb1⟩
    case round =>
      obtain ⟨k, hk1, hk6, rfl, hkn, HO, hbr⟩ := hrel
      clear O1 hb1
      by_cases hlt : k < n
      · go_wp2
        go_loopw [7] (fun s wr => ∃ i : Nat, k ≤ i + 1 ∧ i < n ∧ s = .int .i64 i ∧ Hid (Own wr w.heap.size A1 n c1 (dvl (nth xs) (nth ys) n k (i + 1))) ∧ Below w.heap.size w wr) (fun s _ => (intOf s).toNat)
        case atStart => exact ⟨n - 1, by omega, by omega, by go_num, by rw [show n - 1 + 1 = n by omega]; exact HO.out, hbr⟩
        case round =>
          obtain ⟨i, hki, hin, rfl, HI, hbi⟩ := hrel
          clear HO hbr
          by_cases hik : k ≤ i
          · obtain ⟨g, rfl, hg1, hg2⟩ := HI.out.form (by omega)
            have x1 := HI.out.cell (j := i) (by omega)
            have x2 := HI.out.cell (j := i - 1) (by omega)
            have f1 := HI.out.free i
            rw [dvl_at _ _ _ _ _ hik hin] at x1
            rw [dvl_at' _ _ _ _ _ hk1 hik hin] at x2
            have b1 := DD.out (k - 1) i
            have b2 := DD.out (k - 1) (i - 1)
            have HT := Lib.hid (dvl_step (nth xs) (nth ys) n k i hk1 hik)
            obtain ⟨b0, off0, rfl, z1⟩ := (HL.out.below hbi).at_ (k := i) (by omega)
            obtain ⟨b2', off2, e2, z2⟩ := (HL.out.below hbi).at_ (k := i - k) (by omega)
            injection e2 with e2
            injection e2 with e3 e4 _
            subst e3; subst e4
            have c1' := PX.out i
            have c2' := PX.out (i - k)
            have hne := HD.out (i - k) i (by omega) hin
            obtain ⟨u, hu⟩ : ∃ u, u = dd (nth xs) (nth ys) (k - 1) i := ⟨_, rfl⟩
            obtain ⟨v, hv⟩ : ∃ v, v = dd (nth xs) (nth ys) (k - 1) (i - 1) := ⟨_, rfl⟩
            obtain ⟨p, hp⟩ : ∃ p, p = nth xs i := ⟨_, rfl⟩
            obtain ⟨q, hq⟩ : ∃ q, q = nth xs (i - k) := ⟨_, rfl⟩
            rw [← hu] at x1 b1 HT
            rw [← hv] at x2 b2 HT
            rw [← hp] at z1 c1' hne HT
            rw [← hq] at z2 c2' hne HT
            clear hu hv hp hq
            obtain ⟨r, hr⟩ : ∃ r, r = (p - q) % 9973 := ⟨_, rfl⟩
            have hrb : 0 < r ∧ r < 9973 := by omega
            obtain ⟨ov, hov⟩ : ∃ ov, ov = pw r 9971 := ⟨_, rfl⟩
            have hob := pw_bd r 9971
            have OV := Lib.hid (fun w : World => c_Over r w (by omega) hrb.2)
            rw [← hr, ← hov] at HT
            rw [← hov] at hob
            rw [← hov] at OV
            have hm : -99460730 ≤ (u - v) * ov ∧ (u - v) * ov ≤ 99460730 := by
              have m1 := mul_bd u ov 9973 b1.1 b1.2 hob.1 hob.2
              have m2 := mul_bd v ov 9973 b2.1 b2.2 hob.1 hob.2
              rw [Int.sub_mul]
              omega
            have hr' : (p - q) % 9973 = r := hr.symm
            clear hr hov hne PX DD HD
            have W1 : IntKind.i64.wrap ((i : Int) - 1) = ((i - 1 : Nat) : Int) := by rw [IntWalk.i64_in _ (by omega)]; omega
            have W2 : IntKind.i64.wrap ((i : Int) - (k : Int)) = ((i - k : Nat) : Int) := by rw [IntWalk.i64_in _ (by omega)]; omega
            have W3 : IntKind.i64.wrap (u - v) = u - v := IntWalk.i64_in _ (by omega)
            have W4 : IntKind.i64.wrap (p - q) = p - q := IntWalk.i64_in _ (by omega)
            have W5 : IntKind.i64.wrap ((u - v) * ov) = (u - v) * ov := IntWalk.i64_in _ (by omega)
            have L1 : i - 1 < n := by omega
            have L2 : i - k < n := by omega
            go_wp2_with fail
            refine wp_region_still_tail 28 (by kernel_rfl) (by kernel_rfl) ?_
            simp only [List.take_succ_cons, List.take_zero, List.drop_succ_cons, List.drop_zero]
            repeat still_step
            still_call ((c_NField _ _ (by omega) (by omega)).mono fun e w'' h => ⟨h.1, h.2.symm⟩)
            rw [hr']
            still_call ((OV.out _).mono fun e w'' h => ⟨h.1, h.2.symm⟩)
            repeat still_step
            still_call ((c_NField _ _ (by omega) (by omega)).mono fun e w'' h => ⟨h.1, h.2.symm⟩)
            repeat still_step
            refine wpStill_nil ?_
            change wpList _ _ _ _ _ wr.drew
            have HN := Lib.hid (own_set HI.out.drew HT.out)
            have HB := Lib.hid (hbi.drew.setCell (p := ⟨g, i, none⟩) hg1 (.int .i64 ((u - v) * ov % 9973)))
            have f2 : wr.drew.frozen? ⟨g, i, none⟩ = false := f1
            have x3 : wr.drew.cell? ⟨g, i, none⟩ = some (.int .i64 u) := x1
            clear x1 x2 z1 z2 f1
            go_wp2
            go_roundw
            case rel => exact ⟨i - 1, by omega, by omega, by go_num, by rw [show i - 1 + 1 = i by omega]; exact HN, HB.out⟩
            case measure => simp [intOf]; omega
          · obtain rfl : k = i + 1 := by omega
            rw [dvl_next _ _ _ _ hk1] at HI
            go_wp2
            go_roundw
            case rel => exact ⟨i + 1 + 1, by omega, by omega, by go_num, by omega, HI, hbi⟩
            case measure => simp [intOf]; omega
      · obtain rfl : k = n := by omega
        rw [dvl_end _ _ _ _ hk1 (Nat.le_refl _)] at HO
        go_wp2
        go_ret
        exact ⟨A1, c1, rfl, HO.out, hbr⟩
end Go.Proofs.YtaidincogkfodaaDoor
