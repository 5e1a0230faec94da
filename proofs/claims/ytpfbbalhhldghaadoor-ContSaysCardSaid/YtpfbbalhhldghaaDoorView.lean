/- An argument that is a fraction, opened: whatever it is, its value is two integers. -/
import Derived.Test.YtpfbbalhhldghaaDoorBase
import Derived.Lib.SmallJoins
namespace Go.Proofs.YtpfbbalhhldghaaDoor
open Go.RowKit Go.ChangeShapes Go.WideShapes Go.Joins Go.Deep

theorem view_frac {H : Type} {enc : TypeId × Value → H} {P : Program} {w : World} {t : TypeId} {f0 f1 : Field} {r : Reach} {b0 : Nat} {v : Value} {d : DataW H} {ps : List MemPlace} (hs : P.underlying t = some (.struct #[f0, f1])) (hone : oneCellFields P #[f0, f1] = true) (hC : P.cellsOf t = 2)
    (h0 : P.underlying f0.type = some (.int .i64)) (h1 : P.underlying f1.type = some (.int .i64))
    (hval : Value.okWide P w r b0 t v) (hd : DataW.Trod enc P w 0 (fun _ => true) true t v d ps) :
    ∃ x y : Int, v = .agg #[.int .i64 x, .int .i64 y] ∧ (Lit.int .i64 x).wf = true ∧ (Lit.int .i64 y).wf = true := by
  obtain ⟨c0, c1, y0, y1, n, hv, _, _, e0, e1⟩ := open_agg2 hs hone hC hval hd
  obtain ⟨a, ha, _, wa⟩ := DataW.trod_int h0 e0
  obtain ⟨b, hb, _, wb⟩ := DataW.trod_int h1 e1
  simp at ha hb
  subst ha hb
  exact ⟨a, b, hv, wa, wb⟩
end Go.Proofs.YtpfbbalhhldghaaDoor
