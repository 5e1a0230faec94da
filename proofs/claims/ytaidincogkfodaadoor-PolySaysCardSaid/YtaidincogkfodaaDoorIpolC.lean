/- Package ipol's Steps and Through: what they make. -/
import Derived.Test.YtaidincogkfodaaDoorIpolB
import Derived.Test.YtaidincogkfodaaDoorPolyH
namespace Go.Proofs.YtaidincogkfodaaDoor
open Go.RowKit

/-- A row times x less c, as far as i. -/
def npl (P : List Int) (c : Int) (j i : Nat) : List Int := mk (j + 1) fun t => ((if 1 ≤ t ∧ t ≤ i then nth P (t - 1) else 0) - (if t < i then nth P t * c else 0)) % 9973
theorem npl_len (P : List Int) (c : Int) (j i : Nat) : (npl P c j i).length = j + 1 := mk_len _ _
theorem npl_zero (P : List Int) (c : Int) (j : Nat) : npl P c j 0 = List.replicate (j + 1) 0 := by
  refine list_ext (by rw [npl, mk_len, List.length_replicate]) fun t ht => ?_
  rw [npl, mk_len] at ht
  rw [npl, mk_nth' _ ht, nth_replicate _ _ _ ht, if_neg (by omega), if_neg (by omega)]
  rfl
theorem npl_next (P : List Int) (c : Int) (j i : Nat) (h : i < j) : nth (npl P c j i) (i + 1) = 0 := by
  unfold npl
  rw [mk_nth' _ (by omega), if_neg (by omega), if_neg (by omega)]; rfl
theorem npl_pl (P : List Int) (c : Int) (j i : Nat) : PL (npl P c j i) := fun t => by
  unfold npl
  rw [mk_nth]
  split
  · exact emod_pl _
  · omega
theorem npl_set (P : List Int) (c : Int) (j i : Nat) (h : i < j) (hp : PL P) : ((npl P c j i).set (i + 1) (nth P i)).set i ((nth (npl P c j i) i - nth P i * c) % 9973) = npl P c j (i + 1) := by
  have e0 : nth (npl P c j i) i = (if 1 ≤ i ∧ i ≤ i then nth P (i - 1) else 0) % 9973 := by
    unfold npl
    rw [mk_nth' _ (by omega), if_neg (show ¬ i < i by omega), Int.sub_zero]
  rw [e0]
  unfold npl
  rw [mk_set, mk_set]
  refine mk_congr fun t ht => ?_
  have hb := hp i
  by_cases e : t = i
  · subst e
    rw [if_pos rfl, if_pos (show t < t + 1 by omega), Int.sub_emod, Int.emod_emod, ← Int.sub_emod]
    congr 2
    by_cases h1 : 1 ≤ t
    · rw [if_pos ⟨h1, Nat.le_refl _⟩, if_pos ⟨h1, by omega⟩]
    · rw [if_neg (fun h => h1 h.1), if_neg (fun h => h1 h.1)]
  · rw [if_neg e]
    by_cases e1 : t = i + 1
    · subst e1
      rw [if_pos rfl, if_pos (by omega), if_neg (by omega), Int.sub_zero, show i + 1 - 1 = i by omega, Int.emod_eq_of_lt hb.1 hb.2]
    · rw [if_neg e1]
      congr 2
      · by_cases h1 : 1 ≤ t ∧ t ≤ i
        · rw [if_pos h1, if_pos (by omega)]
        · rw [if_neg h1, if_neg (by omega)]
      · by_cases h1 : t < i
        · rw [if_pos h1, if_pos (by omega)]
        · rw [if_neg h1, if_neg (by omega)]
/-- What goes through the last j points, factor by factor. -/
def hnl (x y : Nat → Int) (n j : Nat) : List Int := mk j fun k => hn x y n j k % 9973
theorem hnl_len (x y : Nat → Int) (n j : Nat) : (hnl x y n j).length = j := mk_len _ _
theorem hnl_pl (x y : Nat → Int) (n j : Nat) : PL (hnl x y n j) := fun k => by
  unfold hnl
  rw [mk_nth]
  split
  · exact emod_pl _
  · omega
theorem hnl_eqm (x y : Nat → Int) (n j : Nat) : Eqm (nth (hnl x y n j)) (hn x y n j) := fun k => by
  unfold hnl
  rw [mk_nth]
  by_cases h : k < j
  · rw [if_pos h, Int.emod_emod]
  · rw [if_neg h, hn_sup x y n j k (by omega)]
theorem hnl_all (x y : Nat → Int) (n j : Nat) (c : Int) (hc : c = x (n - (j + 1))) : (npl (hnl x y n j) c j j).set 0 ((nth (npl (hnl x y n j) c j j) 0 + dd x y (n - (j + 1)) (n - (j + 1))) % 9973) = hnl x y n (j + 1) := by
  have key : ∀ t, t < j + 1 → nth (npl (hnl x y n j) c j j) t = lin c (hn x y n j) t % 9973 := fun t ht => by
    have e2 : (if t < j then nth (hnl x y n j) t * c else 0) % 9973 = c * hn x y n j t % 9973 := by
      by_cases h : t < j
      · rw [if_pos h, Int.mul_comm]; exact mul_eqm rfl (hnl_eqm x y n j t)
      · rw [if_neg h, hn_sup x y n j t (by omega), Int.mul_zero]
    unfold npl
    rw [mk_nth' _ ht]
    match t, ht, e2 with
    | 0, _, e2 =>
      rw [lin_zero, if_neg (by omega), Int.sub_emod, e2, ← Int.sub_emod, Int.zero_sub]
    | s + 1, ht, e2 =>
      rw [lin_succ, if_pos (by omega), Int.sub_emod, e2, show s + 1 - 1 = s by omega, hnl_eqm x y n j s, ← Int.sub_emod]
  rw [key 0 (by omega)]
  unfold hnl
  refine list_ext (by rw [List.length_set, npl_len, mk_len]) fun t ht => ?_
  rw [List.length_set, npl_len] at ht
  rw [nth_set _ _ _ _ (by rw [npl_len]; omega), mk_nth' _ ht]
  show _ = (lin (x (n - (j + 1))) (hn x y n j) t + (if t = 0 then dd x y (n - (j + 1)) (n - (j + 1)) else 0)) % 9973
  rw [← hc]
  by_cases h : t = 0
  · subst h; rw [if_pos rfl, if_pos rfl, Int.add_emod, Int.emod_emod, ← Int.add_emod]
  · rw [if_neg h, if_neg h, Int.add_zero]
    have := key t ht
    exact this
/-- A part of the call's own row, from its head on. -/
theorem Own.take {w : World} {base n c : Nat} {A : Option Addr} {L : List Int} (h : Own w base A n c L) (k : Nat) (hk : k ≤ n) : Own w base A k c (L.take k) := by
  have hl := h.1
  refine ⟨by rw [List.length_take, hl]; omega, by rw [List.length_map, List.length_take, hl]; omega, ?_⟩
  rcases h.2.2 with ⟨hv, h0⟩ | ⟨g, cap, cur, hv, hg, hh, h0, h1, h2, h3⟩
  · injection hv with e1 e2 e3
    subst e1; subst e3
    obtain rfl : k = 0 := by omega
    exact .inl ⟨rfl, rfl⟩
  · injection hv with e1 e2 e3
    subst e1; subst e3
    exact .inr ⟨g, _, cur, rfl, hg, hh, by omega, h1, h2, by rw [List.map_take, ← h3, List.take_take]; congr 1; omega⟩
set_option maxHeartbeats 1000000 in
theorem c_ISteps_ok (A A' : Option Addr) (n n' c c' : Nat) (xs ys : List Int) (w : World) (hL : Rd w w.heap.size A n xs) (hM : Rd w w.heap.size A' n' ys) (hc : n ≤ c) (hc' : n' ≤ c') (hz : A' = none → c' = 0) (h : IOk xs ys) :
    Calls Tryd.prog 25 #[.slice A n c, .slice A' n' c'] w fun e w' => ∃ (Ad : Option Addr) (cd : Nat), e = .returned (.tuple #[.slice Ad n cd, .nilIface]) ∧ Own w' w.heap.size Ad n cd (mk n fun j => dd (nth xs) (nth ys) j j) ∧ Below w.heap.size w w' := by
  have H := Lib.hid h
  obtain ⟨h1, h2, h3, h4, h5⟩ := h
  rw [hL.1] at h1 h5
  rw [hM.1, hL.1] at h2
  subst h2
  have H3 := Lib.hid h3
  have H4 := Lib.hid h4
  have H5 := Lib.hid h5
  clear h3 h4 h5
  go_enter Tryd.func25, Tryd.ntmps25
  go_wp2_with fail
  refine (c_ICheck_ok _ _ _ _ _ _ xs ys _ _ _ hL hM hc H.out).mono ?_
  rintro e w' ⟨rfl, rfl⟩
  go_wp2_with fail
  refine (c_dsteps A n' c c' xs ys w A' h1 hL H3.out H4.out H5.out hz hM hc hc').mono ?_
  rintro e w1 ⟨Ad, cd, rfl, o1, hb1⟩
  go_wp2
  go_ret2
  exact ⟨Ad, cd, rfl, o1, hb1⟩
theorem c_ISteps_bad (A A' : Option Addr) (n n' c c' : Nat) (xs ys : List Int) (B B' : Nat) (w : World) (hL : Rd w B A n xs) (hM : Rd w B' A' n' ys) (hc : n ≤ c) (h : ¬ IOk xs ys) :
    Calls Tryd.prog 25 #[.slice A n c, .slice A' n' c'] w fun e w' => e = .returned (.tuple #[.slice none 0 0, .iface 46 (.int .i64 (dotE xs ys))]) ∧ w = w' := by
  have H := Lib.hid h
  clear h
  go_enter Tryd.func25, Tryd.ntmps25
  go_wp2_with fail
  refine (c_ICheck_bad _ _ _ _ _ _ xs ys _ _ _ hL hM hc H.out).mono ?_
  rintro e w' ⟨rfl, rfl⟩
  go_wp2
  go_ret2
  exact ⟨rfl, rfl⟩
theorem c_IThrough_bad (A A' : Option Addr) (n n' c c' : Nat) (xs ys : List Int) (B B' : Nat) (w : World) (hL : Rd w B A n xs) (hM : Rd w B' A' n' ys) (hc : n ≤ c) (h : ¬ IOk xs ys) :
    Calls Tryd.prog 24 #[.slice A n c, .slice A' n' c'] w fun e w' => e = .returned (.tuple #[.slice none 0 0, .iface 46 (.int .i64 (dotE xs ys))]) ∧ w = w' := by
  have H := Lib.hid h
  clear h
  go_enter Tryd.func24, Tryd.ntmps24
  go_wp2_with fail
  refine (c_ICheck_bad _ _ _ _ _ _ xs ys _ _ _ hL hM hc H.out).mono ?_
  rintro e w' ⟨rfl, rfl⟩
  go_wp2
  go_ret2
  exact ⟨rfl, rfl⟩
theorem tnF_same {L : List Int} (h : tnF L L.length = L.length) : trm L = L := by
  unfold trm; rw [h, List.take_length]
end Go.Proofs.YtaidincogkfodaaDoor
