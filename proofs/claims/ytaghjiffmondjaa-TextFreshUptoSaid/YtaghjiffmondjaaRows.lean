/-
  No cell of these rows narrows 'for every input' (looked for: loops, veiled, ifaces, maps, wideKeys, modest, calm, conditions, laid).
  DERIVED. THE GIVEN ROWS OF THIS SEAT. 10 by the template 'for every input the law returns true; each argument reads behind the call as it read before'; 0 by the template 'total and deterministic' (their statements: YtaghjiffmondjaaTotals.lean).
  GIVEN WITH THE SEED: the statements are not yours to turn. If you find one false, say at which input.
  Laid BY PROGRAM, IN A SANDBOX (cutbox-rows.mjs): the forced cells as the released guide's own fill.sh prints them over the translation fd332debae6c3bc1… (all of the seat's roots in one cut). By AI agents, Wed Nov 11 2026. No macro, syntax, notation, axiom, sorry.
-/
import Derived.Test.YtaghjiffmondjaaChecked
import GoSem.Claim
import GoSem.ClaimJoined
import GoSem.ClaimMapViews
import Derived.JoinedTies
import Derived.KernelRfl
namespace Go.Proofs.Ytaghjiffmondjaa
/- THE CELL 'sum', in the pinned program and in every row, IS THE sha256 OF THE DUMP (.gsa) THAT YtaghjiffmondjaaProg.lean LOADS. Nothing in Lean hashes anything: it is a label: what it is worth is what the hold of that sum in a sandbox is worth. -/
noncomputable def Try.pinned : Pinned := { name := "ytaghjiffmondjaa", sum := "fd332debae6c3bc17c62e812922c31b918c096014f833c546b539499b61fa476", checked := Try.checked }
namespace Rows
def none {H : Type} : Left H := { results := [], args := [] }

/-- 'annalslaw4.TextNames': WHATEVER THE INPUT: true; the input reads as it did. -/
def textNamesSpec : ChangeSpec := { name := "textNames", fn := fun _ => fun
  | [] => { results := [.lit (.bool true)], args := [] }
  | _ => none }
def textNamesRow : OpenClaim := { program := "ytaghjiffmondjaa", sum := "fd332debae6c3bc17c62e812922c31b918c096014f833c546b539499b61fa476", func := "annals/annalslaw4.TextNames", spec := "textNames", apart := false }
def TextNamesSaid : Prop := textNamesRow.holds Try.pinned (OpenSpec.ofChange textNamesSpec)

/-- ITS FALSE NEIGHBOUR: 'it returns false'. Refute it at one input. -/
def textNamesWrong : ChangeSpec := { name := "textNames", fn := fun _ => fun
  | [] => { results := [.lit (.bool false)], args := [] }
  | _ => none }
def TextNamesWrongFalsely : Prop := textNamesRow.holds Try.pinned (OpenSpec.ofChange textNamesWrong)

/-- 'annalslaw4.TextLines': WHATEVER THE INPUT: true; the input reads as it did. -/
def textLinesSpec : ChangeSpec := { name := "textLines", fn := fun _ => fun
  | [d1, d2] => { results := [.lit (.bool true)], args := [d1, d2] }
  | _ => none }
def textLinesRow : OpenClaim := { program := "ytaghjiffmondjaa", sum := "fd332debae6c3bc17c62e812922c31b918c096014f833c546b539499b61fa476", func := "annals/annalslaw4.TextLines", spec := "textLines", unfollowed := true, recurses := true, apart := false }
def TextLinesSaid : Prop := textLinesRow.holds Try.pinned (OpenSpec.ofChange textLinesSpec)

/-- ITS FALSE NEIGHBOUR: 'it returns false'. Refute it at one input. -/
def textLinesWrong : ChangeSpec := { name := "textLines", fn := fun _ => fun
  | [d1, d2] => { results := [.lit (.bool false)], args := [d1, d2] }
  | _ => none }
def TextLinesWrongFalsely : Prop := textLinesRow.holds Try.pinned (OpenSpec.ofChange textLinesWrong)

/-- 'annalslaw4.TextLinesBack': WHATEVER THE INPUT: true; the input reads as it did. -/
def textLinesBackSpec : ChangeSpec := { name := "textLinesBack", fn := fun _ => fun
  | [d1, d2] => { results := [.lit (.bool true)], args := [d1, d2] }
  | _ => none }
def textLinesBackRow : OpenClaim := { program := "ytaghjiffmondjaa", sum := "fd332debae6c3bc17c62e812922c31b918c096014f833c546b539499b61fa476", func := "annals/annalslaw4.TextLinesBack", spec := "textLinesBack", unfollowed := true, recurses := true, apart := false }
def TextLinesBackSaid : Prop := textLinesBackRow.holds Try.pinned (OpenSpec.ofChange textLinesBackSpec)

/-- ITS FALSE NEIGHBOUR: 'it returns false'. Refute it at one input. -/
def textLinesBackWrong : ChangeSpec := { name := "textLinesBack", fn := fun _ => fun
  | [d1, d2] => { results := [.lit (.bool false)], args := [d1, d2] }
  | _ => none }
def TextLinesBackWrongFalsely : Prop := textLinesBackRow.holds Try.pinned (OpenSpec.ofChange textLinesBackWrong)

/-- 'annalslaw4.TextNumbers': WHATEVER THE INPUT: true; the input reads as it did. -/
def textNumbersSpec : ChangeSpec := { name := "textNumbers", fn := fun _ => fun
  | [d1, d2] => { results := [.lit (.bool true)], args := [d1, d2] }
  | _ => none }
def textNumbersRow : OpenClaim := { program := "ytaghjiffmondjaa", sum := "fd332debae6c3bc17c62e812922c31b918c096014f833c546b539499b61fa476", func := "annals/annalslaw4.TextNumbers", spec := "textNumbers", unfollowed := true, recurses := true, apart := false }
def TextNumbersSaid : Prop := textNumbersRow.holds Try.pinned (OpenSpec.ofChange textNumbersSpec)

/-- ITS FALSE NEIGHBOUR: 'it returns false'. Refute it at one input. -/
def textNumbersWrong : ChangeSpec := { name := "textNumbers", fn := fun _ => fun
  | [d1, d2] => { results := [.lit (.bool false)], args := [d1, d2] }
  | _ => none }
def TextNumbersWrongFalsely : Prop := textNumbersRow.holds Try.pinned (OpenSpec.ofChange textNumbersWrong)

/-- 'annalslaw4.TextBytes': WHATEVER THE INPUT: true; the input reads as it did. -/
def textBytesSpec : ChangeSpec := { name := "textBytes", fn := fun _ => fun
  | [d] => { results := [.lit (.bool true)], args := [d] }
  | _ => none }
def textBytesRow : OpenClaim := { program := "ytaghjiffmondjaa", sum := "fd332debae6c3bc17c62e812922c31b918c096014f833c546b539499b61fa476", func := "annals/annalslaw4.TextBytes", spec := "textBytes", unfollowed := true, recurses := true, apart := false }
def TextBytesSaid : Prop := textBytesRow.holds Try.pinned (OpenSpec.ofChange textBytesSpec)

/-- ITS FALSE NEIGHBOUR: 'it returns false'. Refute it at one input. -/
def textBytesWrong : ChangeSpec := { name := "textBytes", fn := fun _ => fun
  | [d] => { results := [.lit (.bool false)], args := [d] }
  | _ => none }
def TextBytesWrongFalsely : Prop := textBytesRow.holds Try.pinned (OpenSpec.ofChange textBytesWrong)

/-- 'annalslaw4.TextWordsBack': WHATEVER THE INPUT: true; the input reads as it did. -/
def textWordsBackSpec : ChangeSpec := { name := "textWordsBack", fn := fun _ => fun
  | [d] => { results := [.lit (.bool true)], args := [d] }
  | _ => none }
def textWordsBackRow : OpenClaim := { program := "ytaghjiffmondjaa", sum := "fd332debae6c3bc17c62e812922c31b918c096014f833c546b539499b61fa476", func := "annals/annalslaw4.TextWordsBack", spec := "textWordsBack", unfollowed := true, recurses := true, apart := false }
def TextWordsBackSaid : Prop := textWordsBackRow.holds Try.pinned (OpenSpec.ofChange textWordsBackSpec)

/-- ITS FALSE NEIGHBOUR: 'it returns false'. Refute it at one input. -/
def textWordsBackWrong : ChangeSpec := { name := "textWordsBack", fn := fun _ => fun
  | [d] => { results := [.lit (.bool false)], args := [d] }
  | _ => none }
def TextWordsBackWrongFalsely : Prop := textWordsBackRow.holds Try.pinned (OpenSpec.ofChange textWordsBackWrong)

/-- 'annalslaw4.TextWords': WHATEVER THE INPUT: true; the input reads as it did. -/
def textWordsSpec : ChangeSpec := { name := "textWords", fn := fun _ => fun
  | [d] => { results := [.lit (.bool true)], args := [d] }
  | _ => none }
def textWordsRow : OpenClaim := { program := "ytaghjiffmondjaa", sum := "fd332debae6c3bc17c62e812922c31b918c096014f833c546b539499b61fa476", func := "annals/annalslaw4.TextWords", spec := "textWords", unfollowed := true, recurses := true, apart := false }
def TextWordsSaid : Prop := textWordsRow.holds Try.pinned (OpenSpec.ofChange textWordsSpec)

/-- ITS FALSE NEIGHBOUR: 'it returns false'. Refute it at one input. -/
def textWordsWrong : ChangeSpec := { name := "textWords", fn := fun _ => fun
  | [d] => { results := [.lit (.bool false)], args := [d] }
  | _ => none }
def TextWordsWrongFalsely : Prop := textWordsRow.holds Try.pinned (OpenSpec.ofChange textWordsWrong)

/-- 'annalslaw4.TextFresh': WHATEVER THE INPUT: true; the input reads as it did. -/
def textFreshSpec : ChangeSpec := { name := "textFresh", fn := fun _ => fun
  | [d1, d2] => { results := [.lit (.bool true)], args := [d1, d2] }
  | _ => none }
def textFreshRow : OpenClaim := { program := "ytaghjiffmondjaa", sum := "fd332debae6c3bc17c62e812922c31b918c096014f833c546b539499b61fa476", func := "annals/annalslaw4.TextFresh", spec := "textFresh", unfollowed := true, recurses := true, apart := false }
def TextFreshSaid : Prop := textFreshRow.holds Try.pinned (OpenSpec.ofChange textFreshSpec)

/-- ITS FALSE NEIGHBOUR: 'it returns false'. Refute it at one input. -/
def textFreshWrong : ChangeSpec := { name := "textFresh", fn := fun _ => fun
  | [d1, d2] => { results := [.lit (.bool false)], args := [d1, d2] }
  | _ => none }
def TextFreshWrongFalsely : Prop := textFreshRow.holds Try.pinned (OpenSpec.ofChange textFreshWrong)

/-- 'annalslaw4.TextBack': WHATEVER THE INPUT: true; the input reads as it did. -/
def textBackSpec : ChangeSpec := { name := "textBack", fn := fun _ => fun
  | [d1, d2] => { results := [.lit (.bool true)], args := [d1, d2] }
  | _ => none }
def textBackRow : OpenClaim := { program := "ytaghjiffmondjaa", sum := "fd332debae6c3bc17c62e812922c31b918c096014f833c546b539499b61fa476", func := "annals/annalslaw4.TextBack", spec := "textBack", unfollowed := true, recurses := true, apart := false }
def TextBackSaid : Prop := textBackRow.holds Try.pinned (OpenSpec.ofChange textBackSpec)

/-- ITS FALSE NEIGHBOUR: 'it returns false'. Refute it at one input. -/
def textBackWrong : ChangeSpec := { name := "textBack", fn := fun _ => fun
  | [d1, d2] => { results := [.lit (.bool false)], args := [d1, d2] }
  | _ => none }
def TextBackWrongFalsely : Prop := textBackRow.holds Try.pinned (OpenSpec.ofChange textBackWrong)

/-- 'annalslaw4.TextOne': WHATEVER THE INPUT: true; the input reads as it did. -/
def textOneSpec : ChangeSpec := { name := "textOne", fn := fun _ => fun
  | [d1, d2] => { results := [.lit (.bool true)], args := [d1, d2] }
  | _ => none }
def textOneRow : OpenClaim := { program := "ytaghjiffmondjaa", sum := "fd332debae6c3bc17c62e812922c31b918c096014f833c546b539499b61fa476", func := "annals/annalslaw4.TextOne", spec := "textOne", unfollowed := true, recurses := true, apart := false }
def TextOneSaid : Prop := textOneRow.holds Try.pinned (OpenSpec.ofChange textOneSpec)

/-- ITS FALSE NEIGHBOUR: 'it returns false'. Refute it at one input. -/
def textOneWrong : ChangeSpec := { name := "textOne", fn := fun _ => fun
  | [d1, d2] => { results := [.lit (.bool false)], args := [d1, d2] }
  | _ => none }
def TextOneWrongFalsely : Prop := textOneRow.holds Try.pinned (OpenSpec.ofChange textOneWrong)

/- THE SECOND FORM. 'bulk': how many values and letters a reading holds, each counted each time it is reached (what is shared counts as often as it is met; a slice's spare places count too). A statement '..UptoSaid' is the law's where the arguments, and the package variables that the reading takes, are together of bulk at most 1048576: NARROWER than '..Said'. Prove '..Said' where nothing that the law and all that it calls make is longer than what came in: it says more and counts as full. Else prove '..UptoSaid'. A law counts once. -/
mutual
def uptoBulk {H : Type} : DataW H → Nat
  | .lit (.string bytes) => bytes.length + 1
  | .lit _ => 1
  | .nil => 1
  | .ptr d => uptoBulk d + 1
  | .slice elems spare => uptoBulkAll elems + uptoBulkAll spare + 1
  | .agg parts => uptoBulkAll parts + 1
  | .iface _ d => uptoBulk d + 1
  | .map entries => uptoBulkEntries entries + 1
  | .held _ => 1
def uptoBulkAll {H : Type} : List (DataW H) → Nat
  | [] => 0
  | d :: r => uptoBulk d + uptoBulkAll r
def uptoBulkEntries {H : Type} : List (Lit × DataW H) → Nat
  | [] => 0
  | x :: r => uptoBulkEntry x + uptoBulkEntries r
def uptoBulkEntry {H : Type} : Lit × DataW H → Nat
  | (.string bytes, d) => bytes.length + uptoBulk d + 1
  | (_, d) => uptoBulk d + 1
 end
def uptoSmall : (H : Type) → List (DataW H) → Bool := fun _ ds => decide (uptoBulkAll ds ≤ 1048576)
def OpenSpec.upto (s : _root_.Go.ChangeSpec) : _root_.Go.OpenSpec := { _root_.Go.OpenSpec.ofChange s with cond := some uptoSmall }

/-- 'annalslaw4.TextNames', WHERE WHAT IT READS IS OF BULK AT MOST 1048576: true; the input reads as it did. -/
def textNamesUptoRow : OpenClaim := { program := "ytaghjiffmondjaa", sum := "fd332debae6c3bc17c62e812922c31b918c096014f833c546b539499b61fa476", func := "annals/annalslaw4.TextNames", spec := "textNames", apart := false, narrowed := true }
def TextNamesUptoSaid : Prop := textNamesUptoRow.holds Try.pinned (OpenSpec.upto textNamesSpec)

/-- 'annalslaw4.TextLines', WHERE WHAT IT READS IS OF BULK AT MOST 1048576: true; the input reads as it did. -/
def textLinesUptoRow : OpenClaim := { program := "ytaghjiffmondjaa", sum := "fd332debae6c3bc17c62e812922c31b918c096014f833c546b539499b61fa476", func := "annals/annalslaw4.TextLines", spec := "textLines", unfollowed := true, recurses := true, apart := false, narrowed := true }
def TextLinesUptoSaid : Prop := textLinesUptoRow.holds Try.pinned (OpenSpec.upto textLinesSpec)

/-- 'annalslaw4.TextLinesBack', WHERE WHAT IT READS IS OF BULK AT MOST 1048576: true; the input reads as it did. -/
def textLinesBackUptoRow : OpenClaim := { program := "ytaghjiffmondjaa", sum := "fd332debae6c3bc17c62e812922c31b918c096014f833c546b539499b61fa476", func := "annals/annalslaw4.TextLinesBack", spec := "textLinesBack", unfollowed := true, recurses := true, apart := false, narrowed := true }
def TextLinesBackUptoSaid : Prop := textLinesBackUptoRow.holds Try.pinned (OpenSpec.upto textLinesBackSpec)

/-- 'annalslaw4.TextNumbers', WHERE WHAT IT READS IS OF BULK AT MOST 1048576: true; the input reads as it did. -/
def textNumbersUptoRow : OpenClaim := { program := "ytaghjiffmondjaa", sum := "fd332debae6c3bc17c62e812922c31b918c096014f833c546b539499b61fa476", func := "annals/annalslaw4.TextNumbers", spec := "textNumbers", unfollowed := true, recurses := true, apart := false, narrowed := true }
def TextNumbersUptoSaid : Prop := textNumbersUptoRow.holds Try.pinned (OpenSpec.upto textNumbersSpec)

/-- 'annalslaw4.TextBytes', WHERE WHAT IT READS IS OF BULK AT MOST 1048576: true; the input reads as it did. -/
def textBytesUptoRow : OpenClaim := { program := "ytaghjiffmondjaa", sum := "fd332debae6c3bc17c62e812922c31b918c096014f833c546b539499b61fa476", func := "annals/annalslaw4.TextBytes", spec := "textBytes", unfollowed := true, recurses := true, apart := false, narrowed := true }
def TextBytesUptoSaid : Prop := textBytesUptoRow.holds Try.pinned (OpenSpec.upto textBytesSpec)

/-- 'annalslaw4.TextWordsBack', WHERE WHAT IT READS IS OF BULK AT MOST 1048576: true; the input reads as it did. -/
def textWordsBackUptoRow : OpenClaim := { program := "ytaghjiffmondjaa", sum := "fd332debae6c3bc17c62e812922c31b918c096014f833c546b539499b61fa476", func := "annals/annalslaw4.TextWordsBack", spec := "textWordsBack", unfollowed := true, recurses := true, apart := false, narrowed := true }
def TextWordsBackUptoSaid : Prop := textWordsBackUptoRow.holds Try.pinned (OpenSpec.upto textWordsBackSpec)

/-- 'annalslaw4.TextWords', WHERE WHAT IT READS IS OF BULK AT MOST 1048576: true; the input reads as it did. -/
def textWordsUptoRow : OpenClaim := { program := "ytaghjiffmondjaa", sum := "fd332debae6c3bc17c62e812922c31b918c096014f833c546b539499b61fa476", func := "annals/annalslaw4.TextWords", spec := "textWords", unfollowed := true, recurses := true, apart := false, narrowed := true }
def TextWordsUptoSaid : Prop := textWordsUptoRow.holds Try.pinned (OpenSpec.upto textWordsSpec)

/-- 'annalslaw4.TextFresh', WHERE WHAT IT READS IS OF BULK AT MOST 1048576: true; the input reads as it did. -/
def textFreshUptoRow : OpenClaim := { program := "ytaghjiffmondjaa", sum := "fd332debae6c3bc17c62e812922c31b918c096014f833c546b539499b61fa476", func := "annals/annalslaw4.TextFresh", spec := "textFresh", unfollowed := true, recurses := true, apart := false, narrowed := true }
def TextFreshUptoSaid : Prop := textFreshUptoRow.holds Try.pinned (OpenSpec.upto textFreshSpec)

/-- 'annalslaw4.TextBack', WHERE WHAT IT READS IS OF BULK AT MOST 1048576: true; the input reads as it did. -/
def textBackUptoRow : OpenClaim := { program := "ytaghjiffmondjaa", sum := "fd332debae6c3bc17c62e812922c31b918c096014f833c546b539499b61fa476", func := "annals/annalslaw4.TextBack", spec := "textBack", unfollowed := true, recurses := true, apart := false, narrowed := true }
def TextBackUptoSaid : Prop := textBackUptoRow.holds Try.pinned (OpenSpec.upto textBackSpec)

/-- 'annalslaw4.TextOne', WHERE WHAT IT READS IS OF BULK AT MOST 1048576: true; the input reads as it did. -/
def textOneUptoRow : OpenClaim := { program := "ytaghjiffmondjaa", sum := "fd332debae6c3bc17c62e812922c31b918c096014f833c546b539499b61fa476", func := "annals/annalslaw4.TextOne", spec := "textOne", unfollowed := true, recurses := true, apart := false, narrowed := true }
def TextOneUptoSaid : Prop := textOneUptoRow.holds Try.pinned (OpenSpec.upto textOneSpec)

end Rows
end Go.Proofs.Ytaghjiffmondjaa
