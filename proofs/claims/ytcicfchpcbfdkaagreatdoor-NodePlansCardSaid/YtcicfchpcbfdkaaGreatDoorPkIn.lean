import Derived.Test.YtcicfchpcbfdkaaGreatDoorPk
/-! A packet in memory. -/
namespace Go.Proofs.YtcicfchpcbfdkaaGreatDoor
open Go.RowKit
/-- a packet in memory -/
def PkIn (w : World) (g : Nat) (s t l lv : Int) (st : Bool) (bv : Value) : Prop := w.heap[g]? = some (.cells #[.int .i64 s, .int .i64 t, .int .i64 l, .int .i64 lv, .bool st, bv] 31 (0, 0))
end Go.Proofs.YtcicfchpcbfdkaaGreatDoor
