import Derived.Test.YtggfhcidmnageaaDoorPk
/-! A packet in memory. -/
namespace Go.Proofs.YtggfhcidmnageaaDoor
open Go.RowKit
/-- a packet in memory -/
def PkIn (w : World) (g : Nat) (s t l lv : Int) (st : Bool) (bv : Value) : Prop := w.heap[g]? = some (.cells #[.int .i64 s, .int .i64 t, .int .i64 l, .int .i64 lv, .bool st, bv] 29 (0, 0))
end Go.Proofs.YtggfhcidmnageaaDoor
