/- The transform's cyclic convolution of two short rows, four numbers each, is their product. (Printed by gen_topprodm.py.) No program in sight. -/
import Derived.Test.YtmicgjpelikjiaaNttLaw
import Derived.Test.YtmicgjpelikjiaaKaraM
import Derived.Test.YtmicgjpelikjiaaPolyM
namespace Go.Proofs.Ytmicgjpelikjiaa

theorem tp_id0 (a0 a1 a2 a3 b0 b1 b2 b3 : Int) : (a0 * 1 + a1 * 1 + a2 * 1 + a3 * 1) * (b0 * 1 + b1 * 1 + b2 * 1 + b3 * 1) = (a0 * b0) * 1 + (a0 * b1 + a1 * b0) * 1 + (a0 * b2 + a1 * b1 + a2 * b0) * 1 + (a0 * b3 + a1 * b2 + a2 * b1 + a3 * b0) * 1 + (a1 * b3 + a2 * b2 + a3 * b1) * 1 + (a2 * b3 + a3 * b2) * 1 + (a3 * b3) * 1 + 257 * (0) := by grind
theorem tp_id1 (a0 a1 a2 a3 b0 b1 b2 b3 : Int) : (a0 * 1 + a1 * 64 + a2 * 241 + a3 * 4) * (b0 * 1 + b1 * 64 + b2 * 241 + b3 * 4) = (a0 * b0) * 1 + (a0 * b1 + a1 * b0) * 64 + (a0 * b2 + a1 * b1 + a2 * b0) * 241 + (a0 * b3 + a1 * b2 + a2 * b1 + a3 * b0) * 4 + (a1 * b3 + a2 * b2 + a3 * b1) * 256 + (a2 * b3 + a3 * b2) * 193 + (a3 * b3) * 16 + 257 * (15 * (a1 * b1) + 60 * (a1 * b2) + 60 * (a2 * b1) + 225 * (a2 * b2) + 3 * (a2 * b3) + 3 * (a3 * b2)) := by grind
theorem tp_id2 (a0 a1 a2 a3 b0 b1 b2 b3 : Int) : (a0 * 1 + a1 * 241 + a2 * 256 + a3 * 16) * (b0 * 1 + b1 * 241 + b2 * 256 + b3 * 16) = (a0 * b0) * 1 + (a0 * b1 + a1 * b0) * 241 + (a0 * b2 + a1 * b1 + a2 * b0) * 256 + (a0 * b3 + a1 * b2 + a2 * b1 + a3 * b0) * 16 + (a1 * b3 + a2 * b2 + a3 * b1) * 1 + (a2 * b3 + a3 * b2) * 241 + (a3 * b3) * 256 + 257 * (225 * (a1 * b1) + 240 * (a1 * b2) + 15 * (a1 * b3) + 240 * (a2 * b1) + 255 * (a2 * b2) + 15 * (a2 * b3) + 15 * (a3 * b1) + 15 * (a3 * b2)) := by grind
theorem tp_id3 (a0 a1 a2 a3 b0 b1 b2 b3 : Int) : (a0 * 1 + a1 * 4 + a2 * 16 + a3 * 64) * (b0 * 1 + b1 * 4 + b2 * 16 + b3 * 64) = (a0 * b0) * 1 + (a0 * b1 + a1 * b0) * 4 + (a0 * b2 + a1 * b1 + a2 * b0) * 16 + (a0 * b3 + a1 * b2 + a2 * b1 + a3 * b0) * 64 + (a1 * b3 + a2 * b2 + a3 * b1) * 256 + (a2 * b3 + a3 * b2) * 253 + (a3 * b3) * 241 + 257 * (3 * (a2 * b3) + 3 * (a3 * b2) + 15 * (a3 * b3)) := by grind
theorem tp_id4 (a0 a1 a2 a3 b0 b1 b2 b3 : Int) : (a0 * 1 + a1 * 256 + a2 * 1 + a3 * 256) * (b0 * 1 + b1 * 256 + b2 * 1 + b3 * 256) = (a0 * b0) * 1 + (a0 * b1 + a1 * b0) * 256 + (a0 * b2 + a1 * b1 + a2 * b0) * 1 + (a0 * b3 + a1 * b2 + a2 * b1 + a3 * b0) * 256 + (a1 * b3 + a2 * b2 + a3 * b1) * 1 + (a2 * b3 + a3 * b2) * 256 + (a3 * b3) * 1 + 257 * (255 * (a1 * b1) + 255 * (a1 * b3) + 255 * (a3 * b1) + 255 * (a3 * b3)) := by grind
theorem tp_id5 (a0 a1 a2 a3 b0 b1 b2 b3 : Int) : (a0 * 1 + a1 * 193 + a2 * 241 + a3 * 253) * (b0 * 1 + b1 * 193 + b2 * 241 + b3 * 253) = (a0 * b0) * 1 + (a0 * b1 + a1 * b0) * 193 + (a0 * b2 + a1 * b1 + a2 * b0) * 241 + (a0 * b3 + a1 * b2 + a2 * b1 + a3 * b0) * 253 + (a1 * b3 + a2 * b2 + a3 * b1) * 256 + (a2 * b3 + a3 * b2) * 64 + (a3 * b3) * 16 + 257 * (144 * (a1 * b1) + 180 * (a1 * b2) + 189 * (a1 * b3) + 180 * (a2 * b1) + 225 * (a2 * b2) + 237 * (a2 * b3) + 189 * (a3 * b1) + 237 * (a3 * b2) + 249 * (a3 * b3)) := by grind
theorem tp_id6 (a0 a1 a2 a3 b0 b1 b2 b3 : Int) : (a0 * 1 + a1 * 16 + a2 * 256 + a3 * 241) * (b0 * 1 + b1 * 16 + b2 * 256 + b3 * 241) = (a0 * b0) * 1 + (a0 * b1 + a1 * b0) * 16 + (a0 * b2 + a1 * b1 + a2 * b0) * 256 + (a0 * b3 + a1 * b2 + a2 * b1 + a3 * b0) * 241 + (a1 * b3 + a2 * b2 + a3 * b1) * 1 + (a2 * b3 + a3 * b2) * 16 + (a3 * b3) * 256 + 257 * (15 * (a1 * b2) + 15 * (a1 * b3) + 15 * (a2 * b1) + 255 * (a2 * b2) + 240 * (a2 * b3) + 15 * (a3 * b1) + 240 * (a3 * b2) + 225 * (a3 * b3)) := by grind
theorem tp_id7 (a0 a1 a2 a3 b0 b1 b2 b3 : Int) : (a0 * 1 + a1 * 253 + a2 * 16 + a3 * 193) * (b0 * 1 + b1 * 253 + b2 * 16 + b3 * 193) = (a0 * b0) * 1 + (a0 * b1 + a1 * b0) * 253 + (a0 * b2 + a1 * b1 + a2 * b0) * 16 + (a0 * b3 + a1 * b2 + a2 * b1 + a3 * b0) * 193 + (a1 * b3 + a2 * b2 + a3 * b1) * 256 + (a2 * b3 + a3 * b2) * 4 + (a3 * b3) * 241 + 257 * (249 * (a1 * b1) + 15 * (a1 * b2) + 189 * (a1 * b3) + 15 * (a2 * b1) + 12 * (a2 * b3) + 189 * (a3 * b1) + 12 * (a3 * b2) + 144 * (a3 * b3)) := by grind

/-- The product's eight places. -/
def tz (a0 a1 a2 a3 b0 b1 b2 b3 : Int) : List Int := [a0 * b0, a0 * b1 + a1 * b0, a0 * b2 + a1 * b1 + a2 * b0, a0 * b3 + a1 * b2 + a2 * b1 + a3 * b0, a1 * b3 + a2 * b2 + a3 * b1, a2 * b3 + a3 * b2, a3 * b3, 0]
theorem tp_turn0 (a0 a1 a2 a3 b0 b1 b2 b3 : Int) : dft 64 1 (tz a0 a1 a2 a3 b0 b1 b2 b3) 0 = dft 64 1 [a0, a1, a2, a3, 0, 0, 0, 0] 0 * dft 64 1 [b0, b1, b2, b3, 0, 0, 0, 0] 0 % 257 := by
  have e1 : dft 64 1 [a0, a1, a2, a3, 0, 0, 0, 0] 0 = (a0 * 1 + a1 * 1 + a2 * 1 + a3 * 1) % 257 := by
    rw [there_0]; congr 1; simp [nth, List.getD]
  have e2 : dft 64 1 [b0, b1, b2, b3, 0, 0, 0, 0] 0 = (b0 * 1 + b1 * 1 + b2 * 1 + b3 * 1) % 257 := by
    rw [there_0]; congr 1; simp [nth, List.getD]
  have e3 : dft 64 1 (tz a0 a1 a2 a3 b0 b1 b2 b3) 0 = ((a0 * b0) * 1 + (a0 * b1 + a1 * b0) * 1 + (a0 * b2 + a1 * b1 + a2 * b0) * 1 + (a0 * b3 + a1 * b2 + a2 * b1 + a3 * b0) * 1 + (a1 * b3 + a2 * b2 + a3 * b1) * 1 + (a2 * b3 + a3 * b2) * 1 + (a3 * b3) * 1) % 257 := by
    rw [there_0]; congr 1; simp [tz, nth, List.getD]
  rw [e1, e2, e3, ← Int.mul_emod, tp_id0, Int.add_mul_emod_self_left]
theorem tp_turn1 (a0 a1 a2 a3 b0 b1 b2 b3 : Int) : dft 64 1 (tz a0 a1 a2 a3 b0 b1 b2 b3) 1 = dft 64 1 [a0, a1, a2, a3, 0, 0, 0, 0] 1 * dft 64 1 [b0, b1, b2, b3, 0, 0, 0, 0] 1 % 257 := by
  have e1 : dft 64 1 [a0, a1, a2, a3, 0, 0, 0, 0] 1 = (a0 * 1 + a1 * 64 + a2 * 241 + a3 * 4) % 257 := by
    rw [there_1]; congr 1; simp [nth, List.getD]
  have e2 : dft 64 1 [b0, b1, b2, b3, 0, 0, 0, 0] 1 = (b0 * 1 + b1 * 64 + b2 * 241 + b3 * 4) % 257 := by
    rw [there_1]; congr 1; simp [nth, List.getD]
  have e3 : dft 64 1 (tz a0 a1 a2 a3 b0 b1 b2 b3) 1 = ((a0 * b0) * 1 + (a0 * b1 + a1 * b0) * 64 + (a0 * b2 + a1 * b1 + a2 * b0) * 241 + (a0 * b3 + a1 * b2 + a2 * b1 + a3 * b0) * 4 + (a1 * b3 + a2 * b2 + a3 * b1) * 256 + (a2 * b3 + a3 * b2) * 193 + (a3 * b3) * 16) % 257 := by
    rw [there_1]; congr 1; simp [tz, nth, List.getD]
  rw [e1, e2, e3, ← Int.mul_emod, tp_id1, Int.add_mul_emod_self_left]
theorem tp_turn2 (a0 a1 a2 a3 b0 b1 b2 b3 : Int) : dft 64 1 (tz a0 a1 a2 a3 b0 b1 b2 b3) 2 = dft 64 1 [a0, a1, a2, a3, 0, 0, 0, 0] 2 * dft 64 1 [b0, b1, b2, b3, 0, 0, 0, 0] 2 % 257 := by
  have e1 : dft 64 1 [a0, a1, a2, a3, 0, 0, 0, 0] 2 = (a0 * 1 + a1 * 241 + a2 * 256 + a3 * 16) % 257 := by
    rw [there_2]; congr 1; simp [nth, List.getD]
  have e2 : dft 64 1 [b0, b1, b2, b3, 0, 0, 0, 0] 2 = (b0 * 1 + b1 * 241 + b2 * 256 + b3 * 16) % 257 := by
    rw [there_2]; congr 1; simp [nth, List.getD]
  have e3 : dft 64 1 (tz a0 a1 a2 a3 b0 b1 b2 b3) 2 = ((a0 * b0) * 1 + (a0 * b1 + a1 * b0) * 241 + (a0 * b2 + a1 * b1 + a2 * b0) * 256 + (a0 * b3 + a1 * b2 + a2 * b1 + a3 * b0) * 16 + (a1 * b3 + a2 * b2 + a3 * b1) * 1 + (a2 * b3 + a3 * b2) * 241 + (a3 * b3) * 256) % 257 := by
    rw [there_2]; congr 1; simp [tz, nth, List.getD]
  rw [e1, e2, e3, ← Int.mul_emod, tp_id2, Int.add_mul_emod_self_left]
theorem tp_turn3 (a0 a1 a2 a3 b0 b1 b2 b3 : Int) : dft 64 1 (tz a0 a1 a2 a3 b0 b1 b2 b3) 3 = dft 64 1 [a0, a1, a2, a3, 0, 0, 0, 0] 3 * dft 64 1 [b0, b1, b2, b3, 0, 0, 0, 0] 3 % 257 := by
  have e1 : dft 64 1 [a0, a1, a2, a3, 0, 0, 0, 0] 3 = (a0 * 1 + a1 * 4 + a2 * 16 + a3 * 64) % 257 := by
    rw [there_3]; congr 1; simp [nth, List.getD]
  have e2 : dft 64 1 [b0, b1, b2, b3, 0, 0, 0, 0] 3 = (b0 * 1 + b1 * 4 + b2 * 16 + b3 * 64) % 257 := by
    rw [there_3]; congr 1; simp [nth, List.getD]
  have e3 : dft 64 1 (tz a0 a1 a2 a3 b0 b1 b2 b3) 3 = ((a0 * b0) * 1 + (a0 * b1 + a1 * b0) * 4 + (a0 * b2 + a1 * b1 + a2 * b0) * 16 + (a0 * b3 + a1 * b2 + a2 * b1 + a3 * b0) * 64 + (a1 * b3 + a2 * b2 + a3 * b1) * 256 + (a2 * b3 + a3 * b2) * 253 + (a3 * b3) * 241) % 257 := by
    rw [there_3]; congr 1; simp [tz, nth, List.getD]
  rw [e1, e2, e3, ← Int.mul_emod, tp_id3, Int.add_mul_emod_self_left]
theorem tp_turn4 (a0 a1 a2 a3 b0 b1 b2 b3 : Int) : dft 64 1 (tz a0 a1 a2 a3 b0 b1 b2 b3) 4 = dft 64 1 [a0, a1, a2, a3, 0, 0, 0, 0] 4 * dft 64 1 [b0, b1, b2, b3, 0, 0, 0, 0] 4 % 257 := by
  have e1 : dft 64 1 [a0, a1, a2, a3, 0, 0, 0, 0] 4 = (a0 * 1 + a1 * 256 + a2 * 1 + a3 * 256) % 257 := by
    rw [there_4]; congr 1; simp [nth, List.getD]
  have e2 : dft 64 1 [b0, b1, b2, b3, 0, 0, 0, 0] 4 = (b0 * 1 + b1 * 256 + b2 * 1 + b3 * 256) % 257 := by
    rw [there_4]; congr 1; simp [nth, List.getD]
  have e3 : dft 64 1 (tz a0 a1 a2 a3 b0 b1 b2 b3) 4 = ((a0 * b0) * 1 + (a0 * b1 + a1 * b0) * 256 + (a0 * b2 + a1 * b1 + a2 * b0) * 1 + (a0 * b3 + a1 * b2 + a2 * b1 + a3 * b0) * 256 + (a1 * b3 + a2 * b2 + a3 * b1) * 1 + (a2 * b3 + a3 * b2) * 256 + (a3 * b3) * 1) % 257 := by
    rw [there_4]; congr 1; simp [tz, nth, List.getD]
  rw [e1, e2, e3, ← Int.mul_emod, tp_id4, Int.add_mul_emod_self_left]
theorem tp_turn5 (a0 a1 a2 a3 b0 b1 b2 b3 : Int) : dft 64 1 (tz a0 a1 a2 a3 b0 b1 b2 b3) 5 = dft 64 1 [a0, a1, a2, a3, 0, 0, 0, 0] 5 * dft 64 1 [b0, b1, b2, b3, 0, 0, 0, 0] 5 % 257 := by
  have e1 : dft 64 1 [a0, a1, a2, a3, 0, 0, 0, 0] 5 = (a0 * 1 + a1 * 193 + a2 * 241 + a3 * 253) % 257 := by
    rw [there_5]; congr 1; simp [nth, List.getD]
  have e2 : dft 64 1 [b0, b1, b2, b3, 0, 0, 0, 0] 5 = (b0 * 1 + b1 * 193 + b2 * 241 + b3 * 253) % 257 := by
    rw [there_5]; congr 1; simp [nth, List.getD]
  have e3 : dft 64 1 (tz a0 a1 a2 a3 b0 b1 b2 b3) 5 = ((a0 * b0) * 1 + (a0 * b1 + a1 * b0) * 193 + (a0 * b2 + a1 * b1 + a2 * b0) * 241 + (a0 * b3 + a1 * b2 + a2 * b1 + a3 * b0) * 253 + (a1 * b3 + a2 * b2 + a3 * b1) * 256 + (a2 * b3 + a3 * b2) * 64 + (a3 * b3) * 16) % 257 := by
    rw [there_5]; congr 1; simp [tz, nth, List.getD]
  rw [e1, e2, e3, ← Int.mul_emod, tp_id5, Int.add_mul_emod_self_left]
theorem tp_turn6 (a0 a1 a2 a3 b0 b1 b2 b3 : Int) : dft 64 1 (tz a0 a1 a2 a3 b0 b1 b2 b3) 6 = dft 64 1 [a0, a1, a2, a3, 0, 0, 0, 0] 6 * dft 64 1 [b0, b1, b2, b3, 0, 0, 0, 0] 6 % 257 := by
  have e1 : dft 64 1 [a0, a1, a2, a3, 0, 0, 0, 0] 6 = (a0 * 1 + a1 * 16 + a2 * 256 + a3 * 241) % 257 := by
    rw [there_6]; congr 1; simp [nth, List.getD]
  have e2 : dft 64 1 [b0, b1, b2, b3, 0, 0, 0, 0] 6 = (b0 * 1 + b1 * 16 + b2 * 256 + b3 * 241) % 257 := by
    rw [there_6]; congr 1; simp [nth, List.getD]
  have e3 : dft 64 1 (tz a0 a1 a2 a3 b0 b1 b2 b3) 6 = ((a0 * b0) * 1 + (a0 * b1 + a1 * b0) * 16 + (a0 * b2 + a1 * b1 + a2 * b0) * 256 + (a0 * b3 + a1 * b2 + a2 * b1 + a3 * b0) * 241 + (a1 * b3 + a2 * b2 + a3 * b1) * 1 + (a2 * b3 + a3 * b2) * 16 + (a3 * b3) * 256) % 257 := by
    rw [there_6]; congr 1; simp [tz, nth, List.getD]
  rw [e1, e2, e3, ← Int.mul_emod, tp_id6, Int.add_mul_emod_self_left]
theorem tp_turn7 (a0 a1 a2 a3 b0 b1 b2 b3 : Int) : dft 64 1 (tz a0 a1 a2 a3 b0 b1 b2 b3) 7 = dft 64 1 [a0, a1, a2, a3, 0, 0, 0, 0] 7 * dft 64 1 [b0, b1, b2, b3, 0, 0, 0, 0] 7 % 257 := by
  have e1 : dft 64 1 [a0, a1, a2, a3, 0, 0, 0, 0] 7 = (a0 * 1 + a1 * 253 + a2 * 16 + a3 * 193) % 257 := by
    rw [there_7]; congr 1; simp [nth, List.getD]
  have e2 : dft 64 1 [b0, b1, b2, b3, 0, 0, 0, 0] 7 = (b0 * 1 + b1 * 253 + b2 * 16 + b3 * 193) % 257 := by
    rw [there_7]; congr 1; simp [nth, List.getD]
  have e3 : dft 64 1 (tz a0 a1 a2 a3 b0 b1 b2 b3) 7 = ((a0 * b0) * 1 + (a0 * b1 + a1 * b0) * 253 + (a0 * b2 + a1 * b1 + a2 * b0) * 16 + (a0 * b3 + a1 * b2 + a2 * b1 + a3 * b0) * 193 + (a1 * b3 + a2 * b2 + a3 * b1) * 256 + (a2 * b3 + a3 * b2) * 4 + (a3 * b3) * 241) % 257 := by
    rw [there_7]; congr 1; simp [tz, nth, List.getD]
  rw [e1, e2, e3, ← Int.mul_emod, tp_id7, Int.add_mul_emod_self_left]
theorem tp_fold (a0 a1 a2 a3 b0 b1 b2 b3 : Int) (h : Eight (tz a0 a1 a2 a3 b0 b1 b2 b3)) : foldL [a0, a1, a2, a3, 0, 0, 0, 0] [b0, b1, b2, b3, 0, 0, 0, 0] = tz a0 a1 a2 a3 b0 b1 b2 b3 := by
  have e : mulL (turnL 64 1 [a0, a1, a2, a3, 0, 0, 0, 0]) (turnL 64 1 [b0, b1, b2, b3, 0, 0, 0, 0]) = turnL 64 1 (tz a0 a1 a2 a3 b0 b1 b2 b3) := by
    apply nth_ext' (by simp [turnL, mulL])
    intro k hk
    rw [mulL_len] at hk
    rw [turnL_nth _ _ _ hk, mulL_nth _ _ hk, turnL_nth _ _ _ hk, turnL_nth _ _ _ hk]
    match k, hk with
    | 0, _ => exact (tp_turn0 a0 a1 a2 a3 b0 b1 b2 b3).symm
    | 1, _ => exact (tp_turn1 a0 a1 a2 a3 b0 b1 b2 b3).symm
    | 2, _ => exact (tp_turn2 a0 a1 a2 a3 b0 b1 b2 b3).symm
    | 3, _ => exact (tp_turn3 a0 a1 a2 a3 b0 b1 b2 b3).symm
    | 4, _ => exact (tp_turn4 a0 a1 a2 a3 b0 b1 b2 b3).symm
    | 5, _ => exact (tp_turn5 a0 a1 a2 a3 b0 b1 b2 b3).symm
    | 6, _ => exact (tp_turn6 a0 a1 a2 a3 b0 b1 b2 b3).symm
    | 7, _ => exact (tp_turn7 a0 a1 a2 a3 b0 b1 b2 b3).symm
  unfold foldL
  rw [e, back_there _ h]
theorem tp_conv (a0 a1 a2 a3 b0 b1 b2 b3 : Int) : convL 4 [a0, a1, a2, a3] [b0, b1, b2, b3] = [a0 * b0, a0 * b1 + a1 * b0, a0 * b2 + a1 * b1 + a2 * b0, a0 * b3 + a1 * b2 + a2 * b1 + a3 * b0, a1 * b3 + a2 * b2 + a3 * b1, a2 * b3 + a3 * b2, a3 * b3] := by
  simp [convL, mk, List.range_succ, cv, sm, nth, List.getD]
/-- A product of two numbers from 0 to 7. -/
theorem seven {x y : Int} (h : 0 ≤ x ∧ x ≤ 7) (h' : 0 ≤ y ∧ y ≤ 7) : 0 ≤ x * y ∧ x * y ≤ 49 := ⟨Int.mul_nonneg h.1 h'.1, Int.mul_le_mul (c := 7) (d := 7) h.2 h'.2 h'.1 (by omega)⟩
theorem four_of {L : List Int} (h : L.length = 4) : ∃ a0 a1 a2 a3, L = [a0, a1, a2, a3] := by
  match L, h with
  | [a0, a1, a2, a3], _ => exact ⟨a0, a1, a2, a3, rfl⟩
theorem tp_all {L M : List Int} (hL : L.length = 4) (hM : M.length = 4) (bL : ∀ x ∈ L, 0 ≤ x ∧ x ≤ 7) (bM : ∀ x ∈ M, 0 ≤ x ∧ x ≤ 7) :
    foldL (L ++ [0, 0, 0, 0]) (M ++ [0, 0, 0, 0]) = convL 4 L M ++ [0] ∧ (∀ x ∈ convL 4 L M, 0 ≤ x ∧ x ≤ 196) ∧ Eight (L ++ [0, 0, 0, 0]) ∧ Eight (M ++ [0, 0, 0, 0]) := by
  obtain ⟨a0, a1, a2, a3, rfl⟩ := four_of hL
  obtain ⟨b0, b1, b2, b3, rfl⟩ := four_of hM
  simp at bL bM
  obtain ⟨x0, x1, x2, x3⟩ := bL
  obtain ⟨y0, y1, y2, y3⟩ := bM
  have p00 := seven x0 y0
  have p01 := seven x0 y1
  have p02 := seven x0 y2
  have p03 := seven x0 y3
  have p10 := seven x1 y0
  have p11 := seven x1 y1
  have p12 := seven x1 y2
  have p13 := seven x1 y3
  have p20 := seven x2 y0
  have p21 := seven x2 y1
  have p22 := seven x2 y2
  have p23 := seven x2 y3
  have p30 := seven x3 y0
  have p31 := seven x3 y1
  have p32 := seven x3 y2
  have p33 := seven x3 y3
  have hE : Eight (tz a0 a1 a2 a3 b0 b1 b2 b3) := ⟨rfl, fun k hk => by
    match k, hk with
    | 0, _ => show 0 ≤ a0 * b0 ∧ a0 * b0 ≤ 256; omega
    | 1, _ => show 0 ≤ a0 * b1 + a1 * b0 ∧ a0 * b1 + a1 * b0 ≤ 256; omega
    | 2, _ => show 0 ≤ a0 * b2 + a1 * b1 + a2 * b0 ∧ a0 * b2 + a1 * b1 + a2 * b0 ≤ 256; omega
    | 3, _ => show 0 ≤ a0 * b3 + a1 * b2 + a2 * b1 + a3 * b0 ∧ a0 * b3 + a1 * b2 + a2 * b1 + a3 * b0 ≤ 256; omega
    | 4, _ => show 0 ≤ a1 * b3 + a2 * b2 + a3 * b1 ∧ a1 * b3 + a2 * b2 + a3 * b1 ≤ 256; omega
    | 5, _ => show 0 ≤ a2 * b3 + a3 * b2 ∧ a2 * b3 + a3 * b2 ≤ 256; omega
    | 6, _ => show 0 ≤ a3 * b3 ∧ a3 * b3 ≤ 256; omega
    | 7, _ => show (0 : Int) ≤ 0 ∧ (0 : Int) ≤ 256; omega⟩
  rw [tp_conv]
  refine ⟨tp_fold a0 a1 a2 a3 b0 b1 b2 b3 hE, ?_, ⟨rfl, fun k hk => ?_⟩, ⟨rfl, fun k hk => ?_⟩⟩
  · intro x hx
    simp at hx
    rcases hx with rfl | rfl | rfl | rfl | rfl | rfl | rfl <;> omega
  · match k, hk with
    | 0, _ => show 0 ≤ a0 ∧ a0 ≤ 256; omega
    | 1, _ => show 0 ≤ a1 ∧ a1 ≤ 256; omega
    | 2, _ => show 0 ≤ a2 ∧ a2 ≤ 256; omega
    | 3, _ => show 0 ≤ a3 ∧ a3 ≤ 256; omega
    | 4, _ => show (0 : Int) ≤ 0 ∧ (0 : Int) ≤ 256; omega
    | 5, _ => show (0 : Int) ≤ 0 ∧ (0 : Int) ≤ 256; omega
    | 6, _ => show (0 : Int) ≤ 0 ∧ (0 : Int) ≤ 256; omega
    | 7, _ => show (0 : Int) ≤ 0 ∧ (0 : Int) ≤ 256; omega
  · match k, hk with
    | 0, _ => show 0 ≤ b0 ∧ b0 ≤ 256; omega
    | 1, _ => show 0 ≤ b1 ∧ b1 ≤ 256; omega
    | 2, _ => show 0 ≤ b2 ∧ b2 ≤ 256; omega
    | 3, _ => show 0 ≤ b3 ∧ b3 ≤ 256; omega
    | 4, _ => show (0 : Int) ≤ 0 ∧ (0 : Int) ≤ 256; omega
    | 5, _ => show (0 : Int) ≤ 0 ∧ (0 : Int) ≤ 256; omega
    | 6, _ => show (0 : Int) ≤ 0 ∧ (0 : Int) ≤ 256; omega
    | 7, _ => show (0 : Int) ≤ 0 ∧ (0 : Int) ≤ 256; omega
theorem tp_mul {L M : List Int} (hL : L.length = 4) (hM : M.length = 4) (hb : ∀ x ∈ convL 4 L M, 0 ≤ x ∧ x ≤ 196) : trm (convL 4 L M) = pmul L M :=
  canon (tr_trm _) (pmul_tr _ _) fun k => by
    rw [trm_nth, pmul_nth, ← convL_nth hL hM]
    rcases Nat.lt_or_ge k (convL 4 L M).length with h | h
    · have := hb _ (nth_mem h); omega
    · rw [sup_nth _ k h]; rfl
end Go.Proofs.Ytmicgjpelikjiaa
