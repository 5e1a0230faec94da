/- Plain words on memory that the proofs of this seat share: a slice of integers that reads as a list. No program in sight. -/
import Derived.WalkKit
import Derived.ProofKit
import Derived.OpenShut
import Derived.Handy
import Derived.WalkSpells
import Derived.WalkLawsBesides
import Derived.Lib.Hide
namespace Go.Proofs.YtpamlngkhjnboaaDoor
open Go.RowKit

/-- The j-th number of a list. (A plain def: the walk does not look inside.) -/
def nth (L : List Int) (j : Nat) : Int := L.getD j 0

/-- The slice value '.slice A n c' reads in w as the list L, and lies below block B. -/
def Rd (w : World) (B : Nat) (A : Option Addr) (n : Nat) (L : List Int) : Prop :=
  L.length = n ∧ (0 < n → ∃ b off, A = some ⟨b, off, none⟩ ∧ b < B ∧ ∀ j, j < n → w.cell? ⟨b, off + j, none⟩ = some (.int .i64 (nth L j)))

section
variable {w w' : World} {B B' n : Nat} {A : Option Addr} {L : List Int}
theorem Rd.at_ (h : Rd w B A n L) {k : Nat} (hk : k < n) : ∃ b off, A = some ⟨b, off, none⟩ ∧ w.cell? ⟨b, off + k, none⟩ = some (.int .i64 (nth L k)) := by
  obtain ⟨b, off, e, _, hc⟩ := h.2 (by omega)
  exact ⟨b, off, e, hc k hk⟩
theorem Rd.at' (h : Rd w B A n L) {k : Nat} (hk : k < n) : ∃ b off, A = some ⟨b, off, none⟩ ∧ b < B ∧ w.cell? ⟨b, off + k, none⟩ = some (.int .i64 (nth L k)) := by
  obtain ⟨b, off, e, hb, hc⟩ := h.2 (by omega)
  exact ⟨b, off, e, hb, hc k hk⟩
theorem Rd.keep (h : Rd w B A n L) (hk : ∀ p : Addr, p.block < B → w'.cell? p = w.cell? p) : Rd w' B A n L :=
  ⟨h.1, fun hn => by
    obtain ⟨b, off, e, hb, hc⟩ := h.2 hn
    exact ⟨b, off, e, hb, fun j hj => (hk _ hb).trans (hc j hj)⟩⟩
theorem Rd.more (h : Rd w B A n L) (hB : B ≤ B') : Rd w B' A n L :=
  ⟨h.1, fun hn => by
    obtain ⟨b, off, e, hb, hc⟩ := h.2 hn
    exact ⟨b, off, e, by omega, hc⟩⟩
theorem Rd.below (h : Rd w B A n L) (hb : Below B w w') : Rd w' B A n L := h.keep fun _ hp => hb.cell hp
theorem Rd.drew (h : Rd w B A n L) : Rd w.drew B A n L := h
theorem Rd.alloc (h : Rd w B A n L) (hB : B ≤ w.heap.size) (o : Obj) : Rd (w.alloc o) B A n L := h.keep fun p hp => World.cell?_alloc_lt w o p (by omega)
theorem Rd.len (h : Rd w B A n L) : L.length = n := h.1
end

theorem ret_bool {a b : Bool} (h : a = b) : Ending.returned (.bool a) = .returned (.bool b) := by rw [h]
theorem ret_int {k : IntKind} {a b : Int} (h : a = b) : Ending.returned (.int k a) = .returned (.int k b) := by rw [h]

/-- Is a number outside of bounds? -/
def outB (n lo hi : Int) : Bool := decide (n < lo) || decide (n > hi)
/-- Is one of a list outside of bounds? -/
def anyB (L : List Int) (lo hi : Int) : Bool := L.any fun n => outB n lo hi
/-- Is a number within bounds? -/
def inB (n lo hi : Int) : Bool := decide (lo ≤ n) && decide (n ≤ hi)
/-- Are all within bounds? -/
def allB (L : List Int) (lo hi : Int) : Bool := L.all fun n => inB n lo hi
theorem outB_true {n lo hi : Int} (h : n < lo ∨ hi < n) : outB n lo hi = true := by
  unfold outB; rcases h with h | h <;> simp [h]
theorem outB_false {n lo hi : Int} (h1 : lo ≤ n) (h2 : n ≤ hi) : outB n lo hi = false := by
  unfold outB; simp; omega
theorem outB_iff (n lo hi : Int) : outB n lo hi = true ↔ (n < lo ∨ hi < n) := by unfold outB; simp
theorem inB_not (n lo hi : Int) : inB n lo hi = !outB n lo hi := by
  unfold inB outB
  rw [Bool.eq_iff_iff]; simp
theorem allB_not (L : List Int) (lo hi : Int) : allB L lo hi = !anyB L lo hi := by
  unfold allB anyB
  rw [List.all_eq_not_any_not]
  congr 2
  funext n
  rw [inB_not, Bool.not_not]
theorem anyB_false_of {L : List Int} {lo hi : Int} (h : ∀ n ∈ L, lo ≤ n ∧ n ≤ hi) : anyB L lo hi = false := by
  unfold anyB
  rw [List.any_eq_false]
  intro n hn
  simp [outB_false (h n hn).1 (h n hn).2]
theorem anyB_false {L : List Int} {lo hi : Int} (h : anyB L lo hi = false) : ∀ n ∈ L, lo ≤ n ∧ n ≤ hi := by
  unfold anyB at h
  rw [List.any_eq_false] at h
  intro n hn
  have := h n hn
  rw [outB_iff] at this
  omega
theorem nth_mem {L : List Int} {k : Nat} (h : k < L.length) : nth L k ∈ L := by
  unfold nth
  rw [List.getD, List.getElem?_eq_getElem h]
  exact List.getElem_mem h
/-- The first k of a list are all within bounds, the next is not: one is not. -/
theorem anyB_hit {L : List Int} {lo hi : Int} {k : Nat} (h : k < L.length) (hk : outB (nth L k) lo hi = true) : anyB L lo hi = true := by
  unfold anyB
  exact List.any_eq_true.2 ⟨_, nth_mem h, hk⟩
theorem anyB_take_succ {L : List Int} {lo hi : Int} {k : Nat} (h : k < L.length) (h1 : anyB (L.take k) lo hi = false) (hk : outB (nth L k) lo hi = false) : anyB (L.take (k + 1)) lo hi = false := by
  unfold anyB at *
  rw [List.take_add_one, List.any_append, h1, List.getElem?_eq_getElem h]
  have : nth L k = L[k] := by unfold nth; rw [List.getD, List.getElem?_eq_getElem h]; rfl
  rw [this] at hk
  simp [hk]
theorem anyB_take_all {L : List Int} {lo hi : Int} {k : Nat} (h : k = L.length) : anyB (L.take k) lo hi = anyB L lo hi := by
  subst h; rw [List.take_length]

/-- An integer that fits int. -/
def Fits (n : Int) : Prop := -9223372036854775808 ≤ n ∧ n ≤ 9223372036854775807
theorem int_bd {n : Int} (h : (Lit.int .i64 n).wf = true) : Fits n := by
  simp [Lit.wf, IntKind.min, IntKind.max, IntKind.signed, IntKind.bits] at h
  exact ⟨by omega, by omega⟩

section
open Go.ChangeShapes Go.WideShapes
variable {H : Type} {enc : TypeId × Value → H} {P : Program} {w : World}
/-- An argument of type []int, opened: whatever it is, its value is a slice that reads as a list of integers. -/
theorem view_ints {t e : TypeId} {r : Reach} {b0 : Nat} {v : Value} {d : DataW H} {ps : List MemPlace} (ht : P.underlying t = some (.slice e)) (he : P.underlying e = some (.int .i64)) (hc : P.cellsOf e = 1)
    (hval : Value.okWide P w r b0 t v) (hd : DataW.Trod enc P w 0 (fun _ => true) true t v d ps) :
    ∃ (A : Option Addr) (n c : Nat) (L : List Int), v = .slice A n c ∧ (n ≤ c ∧ c ≤ 9223372036854775807) ∧ Rd w w.heap.size A n L ∧ ∀ x ∈ L, Fits x := by
  obtain ⟨a0, len, cap, rfl⟩ := okWide_slice ht hval
  obtain ⟨fuel, hf⟩ := hd
  rcases open_ints ht he hc hf with ⟨hcs, hx⟩ | ⟨a, len', cap', zs, hcs, _, hl, hm, hz, hx, hcell, hwz⟩
  · have hcs' : Value.slice a0 len cap = .slice none 0 0 := by simpa [Value.cells] using hcs
    injection hcs' with h1 h2 h3
    subst h1; subst h2; subst h3
    exact ⟨_, _, _, [], rfl, ⟨Nat.le_refl _, by omega⟩, ⟨rfl, fun h => absurd h (by omega)⟩, fun x hx => by cases hx⟩
  · have hcs' : Value.slice a0 len cap = .slice (some a) len' cap' := by simpa [Value.cells] using hcs
    injection hcs' with h1 h2 h3
    subst h1; subst h2; subst h3
    have hzl : zs.length = cap := by simpa using hz
    unfold maxLen at hm
    refine ⟨_, _, _, zs.take len, rfl, ⟨hl, hm⟩, ⟨by simp; omega, fun hn => ?_⟩, fun x hx' => int_bd (hwz x (List.mem_of_mem_take hx'))⟩
    obtain ⟨b, off, rfl, hcc⟩ := ints_at hcell (by omega)
    refine ⟨b, off, rfl, ?_, fun j hj => ?_⟩
    · have h0 := hcc 0 (by omega)
      rcases Nat.lt_or_ge b w.heap.size with h | h
      · exact h
      · simp [World.cell?, Array.getElem?_eq_none h] at h0
    · rw [hcc j (by omega)]
      unfold nth
      simp [List.getD, hj]
end
end Go.Proofs.YtpamlngkhjnboaaDoor
