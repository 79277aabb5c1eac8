/-
  No cell of these rows narrows 'for every input' (looked for: loops, veiled, ifaces, maps, wideKeys, modest, calm, conditions, laid).
  DERIVED. THE GIVEN ROWS OF THIS SEAT. 7 by the template 'for every input the law returns true; each argument reads behind the call as it read before'; 0 by the template 'total and deterministic' (their statements: YtikigppfnhilhaaTotals.lean).
  GIVEN WITH THE SEED: the statements are not yours to turn. If you find one false, say at which input.
  Laid BY PROGRAM, IN A SANDBOX (cutbox-rows.mjs): the forced cells as the released guide's own fill.sh prints them over the translation 600252d7bc4e6ff0… (all of the seat's roots in one cut). By AI agents, Wed Nov 11 2026. No macro, syntax, notation, axiom, sorry.
-/
import Derived.Test.YtikigppfnhilhaaChecked
import GoSem.Claim
import GoSem.ClaimJoined
import GoSem.ClaimMapViews
import Derived.JoinedTies
import Derived.KernelRfl
namespace Go.Proofs.Ytikigppfnhilhaa
/- THE CELL 'sum', in the pinned program and in every row, IS THE sha256 OF THE DUMP (.gsa) THAT YtikigppfnhilhaaProg.lean LOADS. Nothing in Lean hashes anything: it is a label: what it is worth is what the hold of that sum in a sandbox is worth. -/
noncomputable def Try.pinned : Pinned := { name := "ytikigppfnhilhaa", sum := "600252d7bc4e6ff0c6f96fd86e92ddf3b55964b06c03ec30fce8ad833a067ac6", checked := Try.checked }
namespace Rows
def none {H : Type} : Left H := { results := [], args := [] }

/-- 'mjolnerlaw16.HeapKeeps': WHATEVER THE INPUT: true; the input reads as it did. -/
def heapKeepsSpec : ChangeSpec := { name := "heapKeeps", fn := fun _ => fun
  | [d1, d2, d3, d4, d5] => { results := [.lit (.bool true)], args := [d1, d2, d3, d4, d5] }
  | _ => none }
def heapKeepsRow : OpenClaim := { program := "ytikigppfnhilhaa", sum := "600252d7bc4e6ff0c6f96fd86e92ddf3b55964b06c03ec30fce8ad833a067ac6", func := "mjolner/mjolnerlaw16.HeapKeeps", spec := "heapKeeps", unfollowed := true, recurses := true, apart := false }
def HeapKeepsSaid : Prop := heapKeepsRow.holds Try.pinned (OpenSpec.ofChange heapKeepsSpec)

/-- ITS FALSE NEIGHBOUR: 'it returns false'. Refute it at one input. -/
def heapKeepsWrong : ChangeSpec := { name := "heapKeeps", fn := fun _ => fun
  | [d1, d2, d3, d4, d5] => { results := [.lit (.bool false)], args := [d1, d2, d3, d4, d5] }
  | _ => none }
def HeapKeepsWrongFalsely : Prop := heapKeepsRow.holds Try.pinned (OpenSpec.ofChange heapKeepsWrong)

/-- 'mjolnerlaw16.HeapStores': WHATEVER THE INPUT: true; the input reads as it did. -/
def heapStoresSpec : ChangeSpec := { name := "heapStores", fn := fun _ => fun
  | [d1, d2, d3, d4, d5, d6] => { results := [.lit (.bool true)], args := [d1, d2, d3, d4, d5, d6] }
  | _ => none }
def heapStoresRow : OpenClaim := { program := "ytikigppfnhilhaa", sum := "600252d7bc4e6ff0c6f96fd86e92ddf3b55964b06c03ec30fce8ad833a067ac6", func := "mjolner/mjolnerlaw16.HeapStores", spec := "heapStores", unfollowed := true, recurses := true, apart := false }
def HeapStoresSaid : Prop := heapStoresRow.holds Try.pinned (OpenSpec.ofChange heapStoresSpec)

/-- ITS FALSE NEIGHBOUR: 'it returns false'. Refute it at one input. -/
def heapStoresWrong : ChangeSpec := { name := "heapStores", fn := fun _ => fun
  | [d1, d2, d3, d4, d5, d6] => { results := [.lit (.bool false)], args := [d1, d2, d3, d4, d5, d6] }
  | _ => none }
def HeapStoresWrongFalsely : Prop := heapStoresRow.holds Try.pinned (OpenSpec.ofChange heapStoresWrong)

/-- 'mjolnerlaw16.HeapFrees': WHATEVER THE INPUT: true; the input reads as it did. -/
def heapFreesSpec : ChangeSpec := { name := "heapFrees", fn := fun _ => fun
  | [d1, d2, d3, d4, d5] => { results := [.lit (.bool true)], args := [d1, d2, d3, d4, d5] }
  | _ => none }
def heapFreesRow : OpenClaim := { program := "ytikigppfnhilhaa", sum := "600252d7bc4e6ff0c6f96fd86e92ddf3b55964b06c03ec30fce8ad833a067ac6", func := "mjolner/mjolnerlaw16.HeapFrees", spec := "heapFrees", unfollowed := true, recurses := true, apart := false }
def HeapFreesSaid : Prop := heapFreesRow.holds Try.pinned (OpenSpec.ofChange heapFreesSpec)

/-- ITS FALSE NEIGHBOUR: 'it returns false'. Refute it at one input. -/
def heapFreesWrong : ChangeSpec := { name := "heapFrees", fn := fun _ => fun
  | [d1, d2, d3, d4, d5] => { results := [.lit (.bool false)], args := [d1, d2, d3, d4, d5] }
  | _ => none }
def HeapFreesWrongFalsely : Prop := heapFreesRow.holds Try.pinned (OpenSpec.ofChange heapFreesWrong)

/-- 'mjolnerlaw16.HeapOrders': WHATEVER THE INPUT: true; the input reads as it did. -/
def heapOrdersSpec : ChangeSpec := { name := "heapOrders", fn := fun _ => fun
  | [d1, d2, d3, d4, d5, d6] => { results := [.lit (.bool true)], args := [d1, d2, d3, d4, d5, d6] }
  | _ => none }
def heapOrdersRow : OpenClaim := { program := "ytikigppfnhilhaa", sum := "600252d7bc4e6ff0c6f96fd86e92ddf3b55964b06c03ec30fce8ad833a067ac6", func := "mjolner/mjolnerlaw16.HeapOrders", spec := "heapOrders", unfollowed := true, recurses := true, apart := false }
def HeapOrdersSaid : Prop := heapOrdersRow.holds Try.pinned (OpenSpec.ofChange heapOrdersSpec)

/-- ITS FALSE NEIGHBOUR: 'it returns false'. Refute it at one input. -/
def heapOrdersWrong : ChangeSpec := { name := "heapOrders", fn := fun _ => fun
  | [d1, d2, d3, d4, d5, d6] => { results := [.lit (.bool false)], args := [d1, d2, d3, d4, d5, d6] }
  | _ => none }
def HeapOrdersWrongFalsely : Prop := heapOrdersRow.holds Try.pinned (OpenSpec.ofChange heapOrdersWrong)

/-- 'mjolnerlaw16.HeapRemembers': WHATEVER THE INPUT: true; the input reads as it did. -/
def heapRemembersSpec : ChangeSpec := { name := "heapRemembers", fn := fun _ => fun
  | [d1, d2, d3] => { results := [.lit (.bool true)], args := [d1, d2, d3] }
  | _ => none }
def heapRemembersRow : OpenClaim := { program := "ytikigppfnhilhaa", sum := "600252d7bc4e6ff0c6f96fd86e92ddf3b55964b06c03ec30fce8ad833a067ac6", func := "mjolner/mjolnerlaw16.HeapRemembers", spec := "heapRemembers", unfollowed := true, recurses := true, apart := false }
def HeapRemembersSaid : Prop := heapRemembersRow.holds Try.pinned (OpenSpec.ofChange heapRemembersSpec)

/-- ITS FALSE NEIGHBOUR: 'it returns false'. Refute it at one input. -/
def heapRemembersWrong : ChangeSpec := { name := "heapRemembers", fn := fun _ => fun
  | [d1, d2, d3] => { results := [.lit (.bool false)], args := [d1, d2, d3] }
  | _ => none }
def HeapRemembersWrongFalsely : Prop := heapRemembersRow.holds Try.pinned (OpenSpec.ofChange heapRemembersWrong)

/-- 'mjolnerlaw16.HeapDoes': WHATEVER THE INPUT: true; the input reads as it did. -/
def heapDoesSpec : ChangeSpec := { name := "heapDoes", fn := fun _ => fun
  | [d1, d2, d3] => { results := [.lit (.bool true)], args := [d1, d2, d3] }
  | _ => none }
def heapDoesRow : OpenClaim := { program := "ytikigppfnhilhaa", sum := "600252d7bc4e6ff0c6f96fd86e92ddf3b55964b06c03ec30fce8ad833a067ac6", func := "mjolner/mjolnerlaw16.HeapDoes", spec := "heapDoes", unfollowed := true, recurses := true, apart := false }
def HeapDoesSaid : Prop := heapDoesRow.holds Try.pinned (OpenSpec.ofChange heapDoesSpec)

/-- ITS FALSE NEIGHBOUR: 'it returns false'. Refute it at one input. -/
def heapDoesWrong : ChangeSpec := { name := "heapDoes", fn := fun _ => fun
  | [d1, d2, d3] => { results := [.lit (.bool false)], args := [d1, d2, d3] }
  | _ => none }
def HeapDoesWrongFalsely : Prop := heapDoesRow.holds Try.pinned (OpenSpec.ofChange heapDoesWrong)

/-- 'mjolnerlaw16.HeapZero': WHATEVER THE INPUT: true; the input reads as it did. -/
def heapZeroSpec : ChangeSpec := { name := "heapZero", fn := fun _ => fun
  | [d] => { results := [.lit (.bool true)], args := [d] }
  | _ => none }
def heapZeroRow : OpenClaim := { program := "ytikigppfnhilhaa", sum := "600252d7bc4e6ff0c6f96fd86e92ddf3b55964b06c03ec30fce8ad833a067ac6", func := "mjolner/mjolnerlaw16.HeapZero", spec := "heapZero", unfollowed := true, recurses := true, apart := false }
def HeapZeroSaid : Prop := heapZeroRow.holds Try.pinned (OpenSpec.ofChange heapZeroSpec)

/-- ITS FALSE NEIGHBOUR: 'it returns false'. Refute it at one input. -/
def heapZeroWrong : ChangeSpec := { name := "heapZero", fn := fun _ => fun
  | [d] => { results := [.lit (.bool false)], args := [d] }
  | _ => none }
def HeapZeroWrongFalsely : Prop := heapZeroRow.holds Try.pinned (OpenSpec.ofChange heapZeroWrong)

/- THE SECOND FORM. 'bulk': how many values and letters a reading holds, each counted each time it is reached (what is shared counts as often as it is met; a slice's spare places count too). A statement '..UptoSaid' is the law's where the arguments, and the package variables that the reading takes, are together of bulk at most 1048576: NARROWER than '..Said'. Prove '..Said' where nothing that the law and all that it calls make is longer than what came in: it says more and counts as full. Else prove '..UptoSaid'. A law counts once. -/
mutual
def uptoBulk {H : Type} : DataW H → Nat
  | .lit (.string bytes) => bytes.length + 1
  | .lit _ => 1
  | .nil => 1
  | .ptr d => uptoBulk d + 1
  | .slice elems spare => uptoBulkAll elems + uptoBulkAll spare + 1
  | .agg parts => uptoBulkAll parts + 1
  | .iface _ d => uptoBulk d + 1
  | .map entries => uptoBulkEntries entries + 1
  | .held _ => 1
def uptoBulkAll {H : Type} : List (DataW H) → Nat
  | [] => 0
  | d :: r => uptoBulk d + uptoBulkAll r
def uptoBulkEntries {H : Type} : List (Lit × DataW H) → Nat
  | [] => 0
  | x :: r => uptoBulkEntry x + uptoBulkEntries r
def uptoBulkEntry {H : Type} : Lit × DataW H → Nat
  | (.string bytes, d) => bytes.length + uptoBulk d + 1
  | (_, d) => uptoBulk d + 1
 end
def uptoSmall : (H : Type) → List (DataW H) → Bool := fun _ ds => decide (uptoBulkAll ds ≤ 1048576)
def OpenSpec.upto (s : _root_.Go.ChangeSpec) : _root_.Go.OpenSpec := { _root_.Go.OpenSpec.ofChange s with cond := some uptoSmall }

/-- 'mjolnerlaw16.HeapKeeps', WHERE WHAT IT READS IS OF BULK AT MOST 1048576: true; the input reads as it did. -/
def heapKeepsUptoRow : OpenClaim := { program := "ytikigppfnhilhaa", sum := "600252d7bc4e6ff0c6f96fd86e92ddf3b55964b06c03ec30fce8ad833a067ac6", func := "mjolner/mjolnerlaw16.HeapKeeps", spec := "heapKeeps", unfollowed := true, recurses := true, apart := false, narrowed := true }
def HeapKeepsUptoSaid : Prop := heapKeepsUptoRow.holds Try.pinned (OpenSpec.upto heapKeepsSpec)

/-- 'mjolnerlaw16.HeapStores', WHERE WHAT IT READS IS OF BULK AT MOST 1048576: true; the input reads as it did. -/
def heapStoresUptoRow : OpenClaim := { program := "ytikigppfnhilhaa", sum := "600252d7bc4e6ff0c6f96fd86e92ddf3b55964b06c03ec30fce8ad833a067ac6", func := "mjolner/mjolnerlaw16.HeapStores", spec := "heapStores", unfollowed := true, recurses := true, apart := false, narrowed := true }
def HeapStoresUptoSaid : Prop := heapStoresUptoRow.holds Try.pinned (OpenSpec.upto heapStoresSpec)

/-- 'mjolnerlaw16.HeapFrees', WHERE WHAT IT READS IS OF BULK AT MOST 1048576: true; the input reads as it did. -/
def heapFreesUptoRow : OpenClaim := { program := "ytikigppfnhilhaa", sum := "600252d7bc4e6ff0c6f96fd86e92ddf3b55964b06c03ec30fce8ad833a067ac6", func := "mjolner/mjolnerlaw16.HeapFrees", spec := "heapFrees", unfollowed := true, recurses := true, apart := false, narrowed := true }
def HeapFreesUptoSaid : Prop := heapFreesUptoRow.holds Try.pinned (OpenSpec.upto heapFreesSpec)

/-- 'mjolnerlaw16.HeapOrders', WHERE WHAT IT READS IS OF BULK AT MOST 1048576: true; the input reads as it did. -/
def heapOrdersUptoRow : OpenClaim := { program := "ytikigppfnhilhaa", sum := "600252d7bc4e6ff0c6f96fd86e92ddf3b55964b06c03ec30fce8ad833a067ac6", func := "mjolner/mjolnerlaw16.HeapOrders", spec := "heapOrders", unfollowed := true, recurses := true, apart := false, narrowed := true }
def HeapOrdersUptoSaid : Prop := heapOrdersUptoRow.holds Try.pinned (OpenSpec.upto heapOrdersSpec)

/-- 'mjolnerlaw16.HeapRemembers', WHERE WHAT IT READS IS OF BULK AT MOST 1048576: true; the input reads as it did. -/
def heapRemembersUptoRow : OpenClaim := { program := "ytikigppfnhilhaa", sum := "600252d7bc4e6ff0c6f96fd86e92ddf3b55964b06c03ec30fce8ad833a067ac6", func := "mjolner/mjolnerlaw16.HeapRemembers", spec := "heapRemembers", unfollowed := true, recurses := true, apart := false, narrowed := true }
def HeapRemembersUptoSaid : Prop := heapRemembersUptoRow.holds Try.pinned (OpenSpec.upto heapRemembersSpec)

/-- 'mjolnerlaw16.HeapDoes', WHERE WHAT IT READS IS OF BULK AT MOST 1048576: true; the input reads as it did. -/
def heapDoesUptoRow : OpenClaim := { program := "ytikigppfnhilhaa", sum := "600252d7bc4e6ff0c6f96fd86e92ddf3b55964b06c03ec30fce8ad833a067ac6", func := "mjolner/mjolnerlaw16.HeapDoes", spec := "heapDoes", unfollowed := true, recurses := true, apart := false, narrowed := true }
def HeapDoesUptoSaid : Prop := heapDoesUptoRow.holds Try.pinned (OpenSpec.upto heapDoesSpec)

/-- 'mjolnerlaw16.HeapZero', WHERE WHAT IT READS IS OF BULK AT MOST 1048576: true; the input reads as it did. -/
def heapZeroUptoRow : OpenClaim := { program := "ytikigppfnhilhaa", sum := "600252d7bc4e6ff0c6f96fd86e92ddf3b55964b06c03ec30fce8ad833a067ac6", func := "mjolner/mjolnerlaw16.HeapZero", spec := "heapZero", unfollowed := true, recurses := true, apart := false, narrowed := true }
def HeapZeroUptoSaid : Prop := heapZeroUptoRow.holds Try.pinned (OpenSpec.upto heapZeroSpec)

end Rows
end Go.Proofs.Ytikigppfnhilhaa
