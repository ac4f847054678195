/-
  No cell of these rows narrows 'for every input' (looked for: loops, veiled, ifaces, maps, wideKeys, modest, calm, conditions, laid).
  DERIVED. THE GIVEN ROWS OF THIS SEAT. 2 by the template 'for every input the law returns true; each argument reads behind the call as it read before'; 0 by the template 'total and deterministic' (their statements: YtefgeeckfofkfaaTotals.lean).
  GIVEN WITH THE SEED: the statements are not yours to turn. If you find one false, say at which input.
  Laid BY PROGRAM, IN A SANDBOX (cutbox-rows.mjs): the forced cells as the released guide's own fill.sh prints them over the translation 798e2267391b5917… (all of the seat's roots in one cut). By AI agents, Wed Nov 11 2026. No macro, syntax, notation, axiom, sorry.
-/
import Derived.Test.YtefgeeckfofkfaaChecked
import GoSem.Claim
import GoSem.ClaimJoined
import GoSem.ClaimMapViews
import Derived.JoinedTies
import Derived.KernelRfl
namespace Go.Proofs.Ytefgeeckfofkfaa
/- THE CELL 'sum', in the pinned program and in every row, IS THE sha256 OF THE DUMP (.gsa) THAT YtefgeeckfofkfaaProg.lean LOADS. Nothing in Lean hashes anything: it is a label: what it is worth is what the hold of that sum in a sandbox is worth. -/
noncomputable def Try.pinned : Pinned := { name := "ytefgeeckfofkfaa", sum := "798e2267391b59171e549263ddff506b0ee200ad5fee2c3ecf3385404e5f6cf2", checked := Try.checked }
namespace Rows
def none {H : Type} : Left H := { results := [], args := [] }

/-- 'burnbaglaw09.CallWords': WHATEVER THE INPUT: true; the input reads as it did. -/
def callWordsSpec : ChangeSpec := { name := "callWords", fn := fun _ => fun
  | [d1, d2] => { results := [.lit (.bool true)], args := [d1, d2] }
  | _ => none }
def callWordsRow : OpenClaim := { program := "ytefgeeckfofkfaa", sum := "798e2267391b59171e549263ddff506b0ee200ad5fee2c3ecf3385404e5f6cf2", func := "burnbag/burnbaglaw09.CallWords", spec := "callWords", unfollowed := true, recurses := true, apart := false }
def CallWordsSaid : Prop := callWordsRow.holds Try.pinned (OpenSpec.ofChange callWordsSpec)

/-- ITS FALSE NEIGHBOUR: 'it returns false'. Refute it at one input. -/
def callWordsWrong : ChangeSpec := { name := "callWords", fn := fun _ => fun
  | [d1, d2] => { results := [.lit (.bool false)], args := [d1, d2] }
  | _ => none }
def CallWordsWrongFalsely : Prop := callWordsRow.holds Try.pinned (OpenSpec.ofChange callWordsWrong)

/-- 'burnbaglaw09.CallFits': WHATEVER THE INPUT: true; the input reads as it did. -/
def callFitsSpec : ChangeSpec := { name := "callFits", fn := fun _ => fun
  | [d1, d2, d3] => { results := [.lit (.bool true)], args := [d1, d2, d3] }
  | _ => none }
def callFitsRow : OpenClaim := { program := "ytefgeeckfofkfaa", sum := "798e2267391b59171e549263ddff506b0ee200ad5fee2c3ecf3385404e5f6cf2", func := "burnbag/burnbaglaw09.CallFits", spec := "callFits", unfollowed := true, recurses := true, apart := false }
def CallFitsSaid : Prop := callFitsRow.holds Try.pinned (OpenSpec.ofChange callFitsSpec)

/-- ITS FALSE NEIGHBOUR: 'it returns false'. Refute it at one input. -/
def callFitsWrong : ChangeSpec := { name := "callFits", fn := fun _ => fun
  | [d1, d2, d3] => { results := [.lit (.bool false)], args := [d1, d2, d3] }
  | _ => none }
def CallFitsWrongFalsely : Prop := callFitsRow.holds Try.pinned (OpenSpec.ofChange callFitsWrong)

/- THE SECOND FORM. 'bulk': how many values and letters a reading holds, each counted each time it is reached (what is shared counts as often as it is met; a slice's spare places count too). A statement '..UptoSaid' is the law's where the arguments, and the package variables that the reading takes, are together of bulk at most 1048576: NARROWER than '..Said'. Prove '..Said' where nothing that the law and all that it calls make is longer than what came in: it says more and counts as full. Else prove '..UptoSaid'. A law counts once. -/
mutual
def uptoBulk {H : Type} : DataW H → Nat
  | .lit (.string bytes) => bytes.length + 1
  | .lit _ => 1
  | .nil => 1
  | .ptr d => uptoBulk d + 1
  | .slice elems spare => uptoBulkAll elems + uptoBulkAll spare + 1
  | .agg parts => uptoBulkAll parts + 1
  | .iface _ d => uptoBulk d + 1
  | .map entries => uptoBulkEntries entries + 1
  | .held _ => 1
def uptoBulkAll {H : Type} : List (DataW H) → Nat
  | [] => 0
  | d :: r => uptoBulk d + uptoBulkAll r
def uptoBulkEntries {H : Type} : List (Lit × DataW H) → Nat
  | [] => 0
  | x :: r => uptoBulkEntry x + uptoBulkEntries r
def uptoBulkEntry {H : Type} : Lit × DataW H → Nat
  | (.string bytes, d) => bytes.length + uptoBulk d + 1
  | (_, d) => uptoBulk d + 1
 end
def uptoSmall : (H : Type) → List (DataW H) → Bool := fun _ ds => decide (uptoBulkAll ds ≤ 1048576)
def OpenSpec.upto (s : _root_.Go.ChangeSpec) : _root_.Go.OpenSpec := { _root_.Go.OpenSpec.ofChange s with cond := some uptoSmall }

/-- 'burnbaglaw09.CallWords', WHERE WHAT IT READS IS OF BULK AT MOST 1048576: true; the input reads as it did. -/
def callWordsUptoRow : OpenClaim := { program := "ytefgeeckfofkfaa", sum := "798e2267391b59171e549263ddff506b0ee200ad5fee2c3ecf3385404e5f6cf2", func := "burnbag/burnbaglaw09.CallWords", spec := "callWords", unfollowed := true, recurses := true, apart := false, narrowed := true }
def CallWordsUptoSaid : Prop := callWordsUptoRow.holds Try.pinned (OpenSpec.upto callWordsSpec)

/-- 'burnbaglaw09.CallFits', WHERE WHAT IT READS IS OF BULK AT MOST 1048576: true; the input reads as it did. -/
def callFitsUptoRow : OpenClaim := { program := "ytefgeeckfofkfaa", sum := "798e2267391b59171e549263ddff506b0ee200ad5fee2c3ecf3385404e5f6cf2", func := "burnbag/burnbaglaw09.CallFits", spec := "callFits", unfollowed := true, recurses := true, apart := false, narrowed := true }
def CallFitsUptoSaid : Prop := callFitsUptoRow.holds Try.pinned (OpenSpec.upto callFitsSpec)

end Rows
end Go.Proofs.Ytefgeeckfofkfaa
