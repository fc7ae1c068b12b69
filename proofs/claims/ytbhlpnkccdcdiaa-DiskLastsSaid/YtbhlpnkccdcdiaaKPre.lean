/- What the texts on the disk import. -/
import Derived.Test.YtbhlpnkccdcdiaaProg
import Derived.Test.YtbhlpnkccdcdiaaWWords
import Derived.Test.YtbhlpnkccdcdiaaWLast
import Derived.Test.YtbhlpnkccdcdiaaWTab
import Derived.Test.YtbhlpnkccdcdiaaWFour
import Derived.Test.YtbhlpnkccdcdiaaWArr
import Derived.Test.YtbhlpnkccdcdiaaWZeros
import Derived.Test.YtbhlpnkccdcdiaaWMore
import Derived.Below
import Derived.Deep.Draws
import Derived.Deep.AppendLies
import Derived.Maps.AppendAt
import Derived.OwnWalk
import Derived.Laws.BytesArg
import Derived.Laws.MakeOwn
import Derived.Laws.OwnMore
import Derived.Deep.OwnRows
import Derived.Tactics
import Derived.Lib.ConvBytes
import Derived.Laws.Slices
import Derived.WalkKit
import Derived.KernelRfl
import Derived.RowKit3
import Derived.Deep.LoopGhost
import Derived.Deep.QuietTactic
import Derived.BigQuiet
import Derived.WideLaws
import Derived.Deep.DeepCutAuto
import Derived.Deep.CutBlock
import Derived.Deep.RegionHeld3
import Derived.Laws.Rows
import Derived.Lib.AppendStr
import Derived.ArgAppend
import Derived.Laws.IdiomCopy
import Derived.OrdersHeld
import Derived.Laws.BitsLemmas
import Derived.RowKit
import Derived.Shelf.SlicesQ.Load
import Derived.Shelf.Abstract
import Derived.Deep.RegionLaw
import Derived.Lib.SliceRun
import Derived.Lib.QuietBelow
import Derived.StillTailTactics
import Derived.BigRegion
namespace Go.Proofs.Ytbhlpnkccdcdiaa.Dk
open Go.RowKit Go.Proofs.YtbhlpnkccdcdiaaW.PrintWords
theorem i64wrap {n : Int} (h : -9223372036854775808 ≤ n ∧ n ≤ 9223372036854775807) : IntKind.i64.wrap n = n := by
  rw [IntKind.wrap_i64]
  omega
theorem w64 {n : Int} (h : -9223372036854775808 ≤ n ∧ n ≤ 9223372036854775807) : wrap64 n = n := by unfold wrap64; omega
/-- A region that draws its order, reads, and ends in a tail of a forced order: the world folded. -/
theorem still_tail {P : Program} {id : Nat} {Q : Exit → Act → World → Prop} {l : List Oper} {a : Act} {w : World} (n : Nat) (hm : P.follows .mixedOrders = true) (hB : Region.lexTailB .any l.toArray n = true)
    (h : wpStill P l.toArray w.drew (fun a' => wpList P l.toArray Q (l.drop n) a' w.drew) (l.take n) a) : (Code.region id l.toArray true).wp P Q a w := wp_region_still_tail n hm hB h
end Go.Proofs.Ytbhlpnkccdcdiaa.Dk
