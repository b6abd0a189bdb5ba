/-
  No cell of these rows narrows 'for every input' (looked for: loops, veiled, ifaces, maps, wideKeys, modest, calm, conditions, laid).
  DERIVED. THE GIVEN ROWS OF THIS SEAT. 6 by the template 'for every input the law returns true; each argument reads behind the call as it read before'; 0 by the template 'total and deterministic' (their statements: YtgbihlbgkkpciaaTotals.lean).
  GIVEN WITH THE SEED: the statements are not yours to turn. If you find one false, say at which input.
  Laid BY PROGRAM, IN A SANDBOX (cutbox-rows.mjs): the forced cells as the released guide's own fill.sh prints them over the translation d1e52c768ec60502… (all of the seat's roots in one cut). By AI agents, Wed Nov 11 2026. No macro, syntax, notation, axiom, sorry.
-/
import Derived.Test.YtgbihlbgkkpciaaChecked
import GoSem.Claim
import GoSem.ClaimJoined
import GoSem.ClaimMapViews
import Derived.JoinedTies
import Derived.KernelRfl
namespace Go.Proofs.Ytgbihlbgkkpciaa
/- THE CELL 'sum', in the pinned program and in every row, IS THE sha256 OF THE DUMP (.gsa) THAT YtgbihlbgkkpciaaProg.lean LOADS. Nothing in Lean hashes anything: it is a label: what it is worth is what the hold of that sum in a sandbox is worth. -/
noncomputable def Try.pinned : Pinned := { name := "ytgbihlbgkkpciaa", sum := "d1e52c768ec60502e69027ad0f945b57e5978ef14bdd9c3332ff1375d817b57e", checked := Try.checked }
namespace Rows
def none {H : Type} : Left H := { results := [], args := [] }

/-- 'tollhouselaw20.LruScans': WHATEVER THE INPUT: true; the input reads as it did. -/
def lruScansSpec : ChangeSpec := { name := "lruScans", fn := fun _ => fun
  | [d1, d2] => { results := [.lit (.bool true)], args := [d1, d2] }
  | _ => none }
def lruScansRow : OpenClaim := { program := "ytgbihlbgkkpciaa", sum := "d1e52c768ec60502e69027ad0f945b57e5978ef14bdd9c3332ff1375d817b57e", func := "tollhouse/tollhouselaw20.LruScans", spec := "lruScans", unfollowed := true, recurses := true, apart := false }
def LruScansSaid : Prop := lruScansRow.holds Try.pinned (OpenSpec.ofChange lruScansSpec)

/-- ITS FALSE NEIGHBOUR: 'it returns false'. Refute it at one input. -/
def lruScansWrong : ChangeSpec := { name := "lruScans", fn := fun _ => fun
  | [d1, d2] => { results := [.lit (.bool false)], args := [d1, d2] }
  | _ => none }
def LruScansWrongFalsely : Prop := lruScansRow.holds Try.pinned (OpenSpec.ofChange lruScansWrong)

/-- 'tollhouselaw20.LruOnce': WHATEVER THE INPUT: true; the input reads as it did. -/
def lruOnceSpec : ChangeSpec := { name := "lruOnce", fn := fun _ => fun
  | [d1, d2] => { results := [.lit (.bool true)], args := [d1, d2] }
  | _ => none }
def lruOnceRow : OpenClaim := { program := "ytgbihlbgkkpciaa", sum := "d1e52c768ec60502e69027ad0f945b57e5978ef14bdd9c3332ff1375d817b57e", func := "tollhouse/tollhouselaw20.LruOnce", spec := "lruOnce", unfollowed := true, recurses := true, apart := false }
def LruOnceSaid : Prop := lruOnceRow.holds Try.pinned (OpenSpec.ofChange lruOnceSpec)

/-- ITS FALSE NEIGHBOUR: 'it returns false'. Refute it at one input. -/
def lruOnceWrong : ChangeSpec := { name := "lruOnce", fn := fun _ => fun
  | [d1, d2] => { results := [.lit (.bool false)], args := [d1, d2] }
  | _ => none }
def LruOnceWrongFalsely : Prop := lruOnceRow.holds Try.pinned (OpenSpec.ofChange lruOnceWrong)

/-- 'tollhouselaw20.LruPlays': WHATEVER THE INPUT: true; the input reads as it did. -/
def lruPlaysSpec : ChangeSpec := { name := "lruPlays", fn := fun _ => fun
  | [d1, d2] => { results := [.lit (.bool true)], args := [d1, d2] }
  | _ => none }
def lruPlaysRow : OpenClaim := { program := "ytgbihlbgkkpciaa", sum := "d1e52c768ec60502e69027ad0f945b57e5978ef14bdd9c3332ff1375d817b57e", func := "tollhouse/tollhouselaw20.LruPlays", spec := "lruPlays", inPlace := ["maps.clone"], unfollowed := true, recurses := true, apart := false }
def LruPlaysSaid : Prop := lruPlaysRow.holds Try.pinned (OpenSpec.ofChange lruPlaysSpec)

/-- ITS FALSE NEIGHBOUR: 'it returns false'. Refute it at one input. -/
def lruPlaysWrong : ChangeSpec := { name := "lruPlays", fn := fun _ => fun
  | [d1, d2] => { results := [.lit (.bool false)], args := [d1, d2] }
  | _ => none }
def LruPlaysWrongFalsely : Prop := lruPlaysRow.holds Try.pinned (OpenSpec.ofChange lruPlaysWrong)

/-- 'tollhouselaw20.LruKnown': WHATEVER THE INPUT: true; the input reads as it did. -/
def lruKnownSpec : ChangeSpec := { name := "lruKnown", fn := fun _ => fun
  | [] => { results := [.lit (.bool true)], args := [] }
  | _ => none }
def lruKnownRow : OpenClaim := { program := "ytgbihlbgkkpciaa", sum := "d1e52c768ec60502e69027ad0f945b57e5978ef14bdd9c3332ff1375d817b57e", func := "tollhouse/tollhouselaw20.LruKnown", spec := "lruKnown", inPlace := ["maps.clone"], unfollowed := true, recurses := true, apart := false }
def LruKnownSaid : Prop := lruKnownRow.holds Try.pinned (OpenSpec.ofChange lruKnownSpec)

/-- ITS FALSE NEIGHBOUR: 'it returns false'. Refute it at one input. -/
def lruKnownWrong : ChangeSpec := { name := "lruKnown", fn := fun _ => fun
  | [] => { results := [.lit (.bool false)], args := [] }
  | _ => none }
def LruKnownWrongFalsely : Prop := lruKnownRow.holds Try.pinned (OpenSpec.ofChange lruKnownWrong)

/-- 'tollhouselaw24.CollapseOnce': WHATEVER THE INPUT: true; the input reads as it did. -/
def collapseOnceSpec : ChangeSpec := { name := "collapseOnce", fn := fun _ => fun
  | [d1, d2] => { results := [.lit (.bool true)], args := [d1, d2] }
  | _ => none }
def collapseOnceRow : OpenClaim := { program := "ytgbihlbgkkpciaa", sum := "d1e52c768ec60502e69027ad0f945b57e5978ef14bdd9c3332ff1375d817b57e", func := "tollhouse/tollhouselaw24.CollapseOnce", spec := "collapseOnce", unfollowed := true, recurses := true, apart := false }
def CollapseOnceSaid : Prop := collapseOnceRow.holds Try.pinned (OpenSpec.ofChange collapseOnceSpec)

/-- ITS FALSE NEIGHBOUR: 'it returns false'. Refute it at one input. -/
def collapseOnceWrong : ChangeSpec := { name := "collapseOnce", fn := fun _ => fun
  | [d1, d2] => { results := [.lit (.bool false)], args := [d1, d2] }
  | _ => none }
def CollapseOnceWrongFalsely : Prop := collapseOnceRow.holds Try.pinned (OpenSpec.ofChange collapseOnceWrong)

/-- 'tollhouselaw24.CollapseKnown': WHATEVER THE INPUT: true; the input reads as it did. -/
def collapseKnownSpec : ChangeSpec := { name := "collapseKnown", fn := fun _ => fun
  | [] => { results := [.lit (.bool true)], args := [] }
  | _ => none }
def collapseKnownRow : OpenClaim := { program := "ytgbihlbgkkpciaa", sum := "d1e52c768ec60502e69027ad0f945b57e5978ef14bdd9c3332ff1375d817b57e", func := "tollhouse/tollhouselaw24.CollapseKnown", spec := "collapseKnown", unfollowed := true, recurses := true, apart := false }
def CollapseKnownSaid : Prop := collapseKnownRow.holds Try.pinned (OpenSpec.ofChange collapseKnownSpec)

/-- ITS FALSE NEIGHBOUR: 'it returns false'. Refute it at one input. -/
def collapseKnownWrong : ChangeSpec := { name := "collapseKnown", fn := fun _ => fun
  | [] => { results := [.lit (.bool false)], args := [] }
  | _ => none }
def CollapseKnownWrongFalsely : Prop := collapseKnownRow.holds Try.pinned (OpenSpec.ofChange collapseKnownWrong)

/- THE SECOND FORM. 'bulk': how many values and letters a reading holds, each counted each time it is reached (what is shared counts as often as it is met; a slice's spare places count too). A statement '..UptoSaid' is the law's where the arguments, and the package variables that the reading takes, are together of bulk at most 1048576: NARROWER than '..Said'. Prove '..Said' where nothing that the law and all that it calls make is longer than what came in: it says more and counts as full. Else prove '..UptoSaid'. A law counts once. -/
mutual
def uptoBulk {H : Type} : DataW H → Nat
  | .lit (.string bytes) => bytes.length + 1
  | .lit _ => 1
  | .nil => 1
  | .ptr d => uptoBulk d + 1
  | .slice elems spare => uptoBulkAll elems + uptoBulkAll spare + 1
  | .agg parts => uptoBulkAll parts + 1
  | .iface _ d => uptoBulk d + 1
  | .map entries => uptoBulkEntries entries + 1
  | .held _ => 1
def uptoBulkAll {H : Type} : List (DataW H) → Nat
  | [] => 0
  | d :: r => uptoBulk d + uptoBulkAll r
def uptoBulkEntries {H : Type} : List (Lit × DataW H) → Nat
  | [] => 0
  | x :: r => uptoBulkEntry x + uptoBulkEntries r
def uptoBulkEntry {H : Type} : Lit × DataW H → Nat
  | (.string bytes, d) => bytes.length + uptoBulk d + 1
  | (_, d) => uptoBulk d + 1
 end
def uptoSmall : (H : Type) → List (DataW H) → Bool := fun _ ds => decide (uptoBulkAll ds ≤ 1048576)
def OpenSpec.upto (s : _root_.Go.ChangeSpec) : _root_.Go.OpenSpec := { _root_.Go.OpenSpec.ofChange s with cond := some uptoSmall }

/-- 'tollhouselaw20.LruScans', WHERE WHAT IT READS IS OF BULK AT MOST 1048576: true; the input reads as it did. -/
def lruScansUptoRow : OpenClaim := { program := "ytgbihlbgkkpciaa", sum := "d1e52c768ec60502e69027ad0f945b57e5978ef14bdd9c3332ff1375d817b57e", func := "tollhouse/tollhouselaw20.LruScans", spec := "lruScans", unfollowed := true, recurses := true, apart := false, narrowed := true }
def LruScansUptoSaid : Prop := lruScansUptoRow.holds Try.pinned (OpenSpec.upto lruScansSpec)

/-- 'tollhouselaw20.LruOnce', WHERE WHAT IT READS IS OF BULK AT MOST 1048576: true; the input reads as it did. -/
def lruOnceUptoRow : OpenClaim := { program := "ytgbihlbgkkpciaa", sum := "d1e52c768ec60502e69027ad0f945b57e5978ef14bdd9c3332ff1375d817b57e", func := "tollhouse/tollhouselaw20.LruOnce", spec := "lruOnce", unfollowed := true, recurses := true, apart := false, narrowed := true }
def LruOnceUptoSaid : Prop := lruOnceUptoRow.holds Try.pinned (OpenSpec.upto lruOnceSpec)

/-- 'tollhouselaw20.LruPlays', WHERE WHAT IT READS IS OF BULK AT MOST 1048576: true; the input reads as it did. -/
def lruPlaysUptoRow : OpenClaim := { program := "ytgbihlbgkkpciaa", sum := "d1e52c768ec60502e69027ad0f945b57e5978ef14bdd9c3332ff1375d817b57e", func := "tollhouse/tollhouselaw20.LruPlays", spec := "lruPlays", inPlace := ["maps.clone"], unfollowed := true, recurses := true, apart := false, narrowed := true }
def LruPlaysUptoSaid : Prop := lruPlaysUptoRow.holds Try.pinned (OpenSpec.upto lruPlaysSpec)

/-- 'tollhouselaw20.LruKnown', WHERE WHAT IT READS IS OF BULK AT MOST 1048576: true; the input reads as it did. -/
def lruKnownUptoRow : OpenClaim := { program := "ytgbihlbgkkpciaa", sum := "d1e52c768ec60502e69027ad0f945b57e5978ef14bdd9c3332ff1375d817b57e", func := "tollhouse/tollhouselaw20.LruKnown", spec := "lruKnown", inPlace := ["maps.clone"], unfollowed := true, recurses := true, apart := false, narrowed := true }
def LruKnownUptoSaid : Prop := lruKnownUptoRow.holds Try.pinned (OpenSpec.upto lruKnownSpec)

/-- 'tollhouselaw24.CollapseOnce', WHERE WHAT IT READS IS OF BULK AT MOST 1048576: true; the input reads as it did. -/
def collapseOnceUptoRow : OpenClaim := { program := "ytgbihlbgkkpciaa", sum := "d1e52c768ec60502e69027ad0f945b57e5978ef14bdd9c3332ff1375d817b57e", func := "tollhouse/tollhouselaw24.CollapseOnce", spec := "collapseOnce", unfollowed := true, recurses := true, apart := false, narrowed := true }
def CollapseOnceUptoSaid : Prop := collapseOnceUptoRow.holds Try.pinned (OpenSpec.upto collapseOnceSpec)

/-- 'tollhouselaw24.CollapseKnown', WHERE WHAT IT READS IS OF BULK AT MOST 1048576: true; the input reads as it did. -/
def collapseKnownUptoRow : OpenClaim := { program := "ytgbihlbgkkpciaa", sum := "d1e52c768ec60502e69027ad0f945b57e5978ef14bdd9c3332ff1375d817b57e", func := "tollhouse/tollhouselaw24.CollapseKnown", spec := "collapseKnown", unfollowed := true, recurses := true, apart := false, narrowed := true }
def CollapseKnownUptoSaid : Prop := collapseKnownUptoRow.holds Try.pinned (OpenSpec.upto collapseKnownSpec)

end Rows
end Go.Proofs.Ytgbihlbgkkpciaa
