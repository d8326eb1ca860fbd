/-
  No cell of these rows narrows 'for every input' (looked for: loops, veiled, ifaces, maps, wideKeys, modest, calm, conditions, laid).
  DERIVED. THE GIVEN ROWS OF THIS SEAT. 3 by the template 'for every input the law returns true; each argument reads behind the call as it read before'; 0 by the template 'total and deterministic' (their statements: YtfbjoamdkieamaaGreatTotals.lean).
  GIVEN WITH THE SEED: the statements are not yours to turn. If you find one false, say at which input.
  Laid BY PROGRAM, IN A SANDBOX (cutbox-rows.mjs): the forced cells as the released guide's own fill.sh prints them over the translation 8fc5ef9d32f72b4b… (all of the seat's roots in one cut). By AI agents, Wed Nov 11 2026. No macro, syntax, notation, axiom, sorry.
-/
import Derived.Test.YtfbjoamdkieamaaGreatChecked
import GoSem.Claim
import GoSem.ClaimJoined
import GoSem.ClaimMapViews
import Derived.JoinedTies
import Derived.KernelRfl
namespace Go.Proofs.YtfbjoamdkieamaaGreat
/- THE CELL 'sum', in the pinned program and in every row, IS THE sha256 OF THE DUMP (.gsa) THAT YtfbjoamdkieamaaGreatProg.lean LOADS. Nothing in Lean hashes anything: it is a label: what it is worth is what the hold of that sum in a sandbox is worth. -/
noncomputable def Tryz.pinned : Pinned := { name := "ytfbjoamdkieamaagreat", sum := "8fc5ef9d32f72b4b3b3ce0b4f1ee726917bdb8cd93b14add8cf52788a3c9c89a", checked := Tryz.checked }
namespace Rows
def none {H : Type} : Left H := { results := [], args := [] }

/-- 'platterlaw03.LayoutOrder': WHATEVER THE INPUT: true; the input reads as it did. -/
def layoutOrderSpec : ChangeSpec := { name := "layoutOrder", fn := fun _ => fun
  | [d1, d2] => { results := [.lit (.bool true)], args := [d1, d2] }
  | _ => none }
def layoutOrderRow : OpenClaim := { program := "ytfbjoamdkieamaagreat", sum := "8fc5ef9d32f72b4b3b3ce0b4f1ee726917bdb8cd93b14add8cf52788a3c9c89a", func := "platter/platterlaw03.LayoutOrder", spec := "layoutOrder", unfollowed := true, recurses := true, plainKeys := false, apart := false }
def LayoutOrderSaid : Prop := layoutOrderRow.holds Tryz.pinned (OpenSpec.ofChange layoutOrderSpec)

/-- ITS FALSE NEIGHBOUR: 'it returns false'. Refute it at one input. -/
def layoutOrderWrong : ChangeSpec := { name := "layoutOrder", fn := fun _ => fun
  | [d1, d2] => { results := [.lit (.bool false)], args := [d1, d2] }
  | _ => none }
def LayoutOrderWrongFalsely : Prop := layoutOrderRow.holds Tryz.pinned (OpenSpec.ofChange layoutOrderWrong)

/-- 'platterlaw03.LayoutMoves': WHATEVER THE INPUT: true; the input reads as it did. -/
def layoutMovesSpec : ChangeSpec := { name := "layoutMoves", fn := fun _ => fun
  | [d1, d2] => { results := [.lit (.bool true)], args := [d1, d2] }
  | _ => none }
def layoutMovesRow : OpenClaim := { program := "ytfbjoamdkieamaagreat", sum := "8fc5ef9d32f72b4b3b3ce0b4f1ee726917bdb8cd93b14add8cf52788a3c9c89a", func := "platter/platterlaw03.LayoutMoves", spec := "layoutMoves", unfollowed := true, recurses := true, plainKeys := false, apart := false }
def LayoutMovesSaid : Prop := layoutMovesRow.holds Tryz.pinned (OpenSpec.ofChange layoutMovesSpec)

/-- ITS FALSE NEIGHBOUR: 'it returns false'. Refute it at one input. -/
def layoutMovesWrong : ChangeSpec := { name := "layoutMoves", fn := fun _ => fun
  | [d1, d2] => { results := [.lit (.bool false)], args := [d1, d2] }
  | _ => none }
def LayoutMovesWrongFalsely : Prop := layoutMovesRow.holds Tryz.pinned (OpenSpec.ofChange layoutMovesWrong)

/-- 'platterlaw03.LayoutLists': WHATEVER THE INPUT: true; the input reads as it did. -/
def layoutListsSpec : ChangeSpec := { name := "layoutLists", fn := fun _ => fun
  | [d] => { results := [.lit (.bool true)], args := [d] }
  | _ => none }
def layoutListsRow : OpenClaim := { program := "ytfbjoamdkieamaagreat", sum := "8fc5ef9d32f72b4b3b3ce0b4f1ee726917bdb8cd93b14add8cf52788a3c9c89a", func := "platter/platterlaw03.LayoutLists", spec := "layoutLists", unfollowed := true, recurses := true, plainKeys := false, apart := false }
def LayoutListsSaid : Prop := layoutListsRow.holds Tryz.pinned (OpenSpec.ofChange layoutListsSpec)

/-- ITS FALSE NEIGHBOUR: 'it returns false'. Refute it at one input. -/
def layoutListsWrong : ChangeSpec := { name := "layoutLists", fn := fun _ => fun
  | [d] => { results := [.lit (.bool false)], args := [d] }
  | _ => none }
def LayoutListsWrongFalsely : Prop := layoutListsRow.holds Tryz.pinned (OpenSpec.ofChange layoutListsWrong)

/- THE SECOND FORM. 'bulk': how many values and letters a reading holds, each counted each time it is reached (what is shared counts as often as it is met; a slice's spare places count too). A statement '..UptoSaid' is the law's where the arguments, and the package variables that the reading takes, are together of bulk at most 1048576: NARROWER than '..Said'. Prove '..Said' where nothing that the law and all that it calls make is longer than what came in: it says more and counts as full. Else prove '..UptoSaid'. A law counts once. -/
mutual
def uptoBulk {H : Type} : DataW H → Nat
  | .lit (.string bytes) => bytes.length + 1
  | .lit _ => 1
  | .nil => 1
  | .ptr d => uptoBulk d + 1
  | .slice elems spare => uptoBulkAll elems + uptoBulkAll spare + 1
  | .agg parts => uptoBulkAll parts + 1
  | .iface _ d => uptoBulk d + 1
  | .map entries => uptoBulkEntries entries + 1
  | .held _ => 1
def uptoBulkAll {H : Type} : List (DataW H) → Nat
  | [] => 0
  | d :: r => uptoBulk d + uptoBulkAll r
def uptoBulkEntries {H : Type} : List (Lit × DataW H) → Nat
  | [] => 0
  | x :: r => uptoBulkEntry x + uptoBulkEntries r
def uptoBulkEntry {H : Type} : Lit × DataW H → Nat
  | (.string bytes, d) => bytes.length + uptoBulk d + 1
  | (_, d) => uptoBulk d + 1
 end
def uptoSmall : (H : Type) → List (DataW H) → Bool := fun _ ds => decide (uptoBulkAll ds ≤ 1048576)
def OpenSpec.upto (s : _root_.Go.ChangeSpec) : _root_.Go.OpenSpec := { _root_.Go.OpenSpec.ofChange s with cond := some uptoSmall }

/-- 'platterlaw03.LayoutOrder', WHERE WHAT IT READS IS OF BULK AT MOST 1048576: true; the input reads as it did. -/
def layoutOrderUptoRow : OpenClaim := { program := "ytfbjoamdkieamaagreat", sum := "8fc5ef9d32f72b4b3b3ce0b4f1ee726917bdb8cd93b14add8cf52788a3c9c89a", func := "platter/platterlaw03.LayoutOrder", spec := "layoutOrder", unfollowed := true, recurses := true, plainKeys := false, apart := false, narrowed := true }
def LayoutOrderUptoSaid : Prop := layoutOrderUptoRow.holds Tryz.pinned (OpenSpec.upto layoutOrderSpec)

/-- 'platterlaw03.LayoutMoves', WHERE WHAT IT READS IS OF BULK AT MOST 1048576: true; the input reads as it did. -/
def layoutMovesUptoRow : OpenClaim := { program := "ytfbjoamdkieamaagreat", sum := "8fc5ef9d32f72b4b3b3ce0b4f1ee726917bdb8cd93b14add8cf52788a3c9c89a", func := "platter/platterlaw03.LayoutMoves", spec := "layoutMoves", unfollowed := true, recurses := true, plainKeys := false, apart := false, narrowed := true }
def LayoutMovesUptoSaid : Prop := layoutMovesUptoRow.holds Tryz.pinned (OpenSpec.upto layoutMovesSpec)

/-- 'platterlaw03.LayoutLists', WHERE WHAT IT READS IS OF BULK AT MOST 1048576: true; the input reads as it did. -/
def layoutListsUptoRow : OpenClaim := { program := "ytfbjoamdkieamaagreat", sum := "8fc5ef9d32f72b4b3b3ce0b4f1ee726917bdb8cd93b14add8cf52788a3c9c89a", func := "platter/platterlaw03.LayoutLists", spec := "layoutLists", unfollowed := true, recurses := true, plainKeys := false, apart := false, narrowed := true }
def LayoutListsUptoSaid : Prop := layoutListsUptoRow.holds Tryz.pinned (OpenSpec.upto layoutListsSpec)

end Rows
end Go.Proofs.YtfbjoamdkieamaaGreat
