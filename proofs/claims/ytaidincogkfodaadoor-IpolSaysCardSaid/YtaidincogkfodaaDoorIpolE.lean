/- What goes through dots: its laws; the closed fact of package ipol. -/
import Derived.Test.YtaidincogkfodaaDoorIpolD
import Derived.Test.YtaidincogkfodaaDoorPolyR
namespace Go.Proofs.YtaidincogkfodaaDoor
open Go.RowKit

/-- What goes through all dots. -/
def thr (xs ys : List Int) : List Int := trm (hnl (nth xs) (nth ys) xs.length xs.length)
/-- The divided differences. -/
def dds (xs ys : List Int) : List Int := mk xs.length fun j => dd (nth xs) (nth ys) j j
theorem iok_dis {xs ys : List Int} (h : IOk xs ys) : Dis (nth xs) 0 xs.length := fun i j h1 h2 h3 => by
  have a := h.2.2.1 i
  have b := h.2.2.1 j
  have c := h.2.2.2.2 i j h2 (by omega)
  omega
theorem thr_len (xs ys : List Int) : (thr xs ys).length ≤ xs.length := by
  have := trm_le (hnl (nth xs) (nth ys) xs.length xs.length)
  rw [hnl_len] at this
  exact this
theorem thr_pl (xs ys : List Int) : PL (thr xs ys) := pl_trm (hnl_pl _ _ _ _)
theorem thr_tr (xs ys : List Int) : Tr (thr xs ys) := tr_trm _
theorem thr_pok {xs ys : List Int} (h : IOk xs ys) : POk (thr xs ys) := ⟨by have := thr_len xs ys; have := h.1; omega, thr_pl _ _⟩
theorem thr_eqm (xs ys : List Int) : Eqm (nth (thr xs ys)) (hn (nth xs) (nth ys) xs.length xs.length) := fun k => by
  unfold thr
  rw [trm_nth]
  exact hnl_eqm _ _ _ _ k
theorem thr_itp {xs ys : List Int} (h : IOk xs ys) : Itp (nth xs) (nth ys) 0 xs.length (nth (thr xs ys)) := by
  refine ⟨(sup_nth _).mono (thr_len xs ys), fun i h1 h2 => ?_⟩
  rw [evn_eqm (thr_eqm xs ys)]
  exact (hn_itp _ _ _ (iok_dis h)).2 i h1 h2
theorem thr_pat {xs ys : List Int} (h : IOk xs ys) {i : Nat} (hi : i < xs.length) : pat (thr xs ys) (nth xs i) = nth ys i := by
  rw [pat_of (thr_len xs ys), (thr_itp h).2 i (by omega) (by omega)]
  exact pl_emod h.2.2.2.1 i
/-- There is one alone. -/
theorem thr_uniq {xs ys P : List Int} (h : IOk xs ys) (pp : PL P) (hl : P.length ≤ xs.length) (hv : ∀ i, i < xs.length → pat P (nth xs i) = nth ys i) : thr xs ys = trm P := by
  have hP : Itp (nth xs) (nth ys) 0 xs.length (nth P) := by
    refine ⟨(sup_nth _).mono hl, fun i h1 h2 => ?_⟩
    rw [← pat_of hl, hv i (by omega), pl_emod h.2.2.2.1 i]
  have e := itp_uniq (iok_dis h) (thr_itp h) hP
  refine canon_eqm (thr_pl _ _) (pl_trm pp) (thr_tr _ _) (tr_trm _) fun k => ?_
  rw [trm_nth]
  exact e k
/-- A divided difference is the top coefficient. -/
theorem dd_of {xs ys P : List Int} (h : IOk xs ys) {k : Nat} (hk : k < xs.length) (pp : PL P) (hl : P.length ≤ k + 1) (hv : ∀ i, i < k + 1 → pat P (nth xs i) = nth ys i) : dd (nth xs) (nth ys) k k = nth P k := by
  have hP : Itp (nth xs) (nth ys) 0 (k + 1) (nth P) := by
    refine ⟨(sup_nth _).mono hl, fun i h1 h2 => ?_⟩
    rw [← pat_of hl, hv i (by omega), pl_emod h.2.2.2.1 i]
  have e := dd_top (nth xs) (nth ys) k 0 _ (dis_sub (iok_dis h) (by omega) (by omega)) hP
  rw [Nat.zero_add, pl_emod pp k] at e
  have b := dd_bd (x := nth xs) (y := nth ys) h.2.2.2.1 k k
  rw [e]; omega
theorem fact_iok : IOk [0, 1, 2] [1, 2, 5] := by
  refine ⟨by decide, rfl, pl_of (by decide), pl_of (by decide), fun i j h1 h2 => ?_⟩
  have : j = 0 ∨ j = 1 ∨ j = 2 := by simp at h2; omega
  have : i = 0 ∨ i = 1 := by omega
  rcases this with rfl | rfl <;> rcases ‹j = 0 ∨ _› with rfl | rfl | rfl <;> first | omega | (simp [nth])
theorem fact_thr : thr [0, 1, 2] [1, 2, 5] = [1, 0, 1] := by
  rw [thr_uniq (P := [1, 0, 1]) fact_iok (pl_of (by decide)) (by decide) (by decide +kernel), trm_id (L := [1, 0, 1]) fun _ => (show (1 : Int) ≠ 0 by decide)]
theorem fact_dds : dds [0, 1, 2] [1, 2, 5] = [1, 1, 1] := by
  refine list_ext (by unfold dds; rw [mk_len]; rfl) fun k hk => ?_
  unfold dds at hk ⊢
  rw [mk_len] at hk
  rw [mk_nth' _ hk]
  have : k = 0 ∨ k = 1 ∨ k = 2 := by simp at hk; omega
  rcases this with rfl | rfl | rfl
  · exact dd_of (P := [1]) fact_iok hk (pl_of (by decide)) (by decide) (by decide +kernel)
  · exact dd_of (P := [1, 1]) fact_iok hk (pl_of (by decide)) (by decide) (by decide +kernel)
  · exact dd_of (P := [1, 0, 1]) fact_iok hk (pl_of (by decide)) (by decide) (by decide +kernel)
/-- The contracts, of the words above. -/
theorem c_ITh (A A' : Option Addr) (n n' c c' : Nat) (xs ys : List Int) (w : World) (hL : Rd w w.heap.size A n xs) (hM : Rd w w.heap.size A' n' ys) (hc : n ≤ c) (hc' : n' ≤ c') (hz : A' = none → c' = 0) (h : IOk xs ys) :
    Calls Tryd.prog 24 #[.slice A n c, .slice A' n' c'] w fun e w' => ∃ (Ad : Option Addr) (cd : Nat), e = .returned (.tuple #[.slice Ad (thr xs ys).length cd, .nilIface]) ∧ Own w' w.heap.size Ad (thr xs ys).length cd (thr xs ys) ∧ Below w.heap.size w w' := by
  have hn : n = xs.length := hL.1.symm
  subst hn
  exact c_IThrough_ok A A' xs.length n' c c' xs ys w hL hM hc hc' hz h
theorem c_ISt (A A' : Option Addr) (n n' c c' : Nat) (xs ys : List Int) (w : World) (hL : Rd w w.heap.size A n xs) (hM : Rd w w.heap.size A' n' ys) (hc : n ≤ c) (hc' : n' ≤ c') (hz : A' = none → c' = 0) (h : IOk xs ys) :
    Calls Tryd.prog 25 #[.slice A n c, .slice A' n' c'] w fun e w' => ∃ (Ad : Option Addr) (cd : Nat), e = .returned (.tuple #[.slice Ad n cd, .nilIface]) ∧ Own w' w.heap.size Ad n cd (dds xs ys) ∧ Below w.heap.size w w' := by
  have hn : n = xs.length := hL.1.symm
  subst hn
  exact c_ISteps_ok A A' xs.length n' c c' xs ys w hL hM hc hc' hz h
theorem rd_tri (w : World) (a b c a' b' c' : Int) (t : TypeId) : Rd ((w.alloc (.cells #[.int .i64 a, .int .i64 b, .int .i64 c] t)).alloc (.cells #[.int .i64 a', .int .i64 b', .int .i64 c'] t)) ((w.alloc (.cells #[.int .i64 a, .int .i64 b, .int .i64 c] t)).alloc (.cells #[.int .i64 a', .int .i64 b', .int .i64 c'] t)).heap.size (some ⟨w.heap.size, 0, none⟩) 3 [a, b, c] ∧
    Rd ((w.alloc (.cells #[.int .i64 a, .int .i64 b, .int .i64 c] t)).alloc (.cells #[.int .i64 a', .int .i64 b', .int .i64 c'] t)) ((w.alloc (.cells #[.int .i64 a, .int .i64 b, .int .i64 c] t)).alloc (.cells #[.int .i64 a', .int .i64 b', .int .i64 c'] t)).heap.size (some ⟨w.heap.size + 1, 0, none⟩) 3 [a', b', c'] := by
  refine ⟨((rd_three'' w a b c _).alloc (by simp) _).more (by simp), ?_⟩
  have := rd_three'' (w.alloc (.cells #[.int .i64 a, .int .i64 b, .int .i64 c] t)) a' b' c' t
  simpa using this
end Go.Proofs.YtaidincogkfodaaDoor
