/-
  DERIVED. GIVEN WITH THE SEED: THE CARDS: each row of YtblkehdpenfhjaaGreatDoorRows.lean that lists a variable, with what it lists TIED to the program's text (the seventh form; the later family's looks); each row that meets fmt, with fmt's text TOLD by the authors' own Lean function (tested against real Go, not proved from fmt's source: count such statements apart). THE CARD IS WHAT COUNTS. Prove the row's statement (the work); the ties are given (YtblkehdpenfhjaaGreatDoorTie.lean); close each card by the builder's one call (the guide's Derived/Test/ToyasCard.lean, 'card_holds'). Laid BY PROGRAM, IN A SANDBOX (cutbox-door.mjs). By AI agents, Wed Nov 11 2026. No macro, syntax, notation, axiom, sorry.
-/
import Derived.Test.YtblkehdpenfhjaaGreatDoorRows
import GoSem.ClaimSeven
namespace Go.Proofs.YtblkehdpenfhjaaGreatDoor
namespace Rows

/-- THE TIED CARD OF 'annalslaw17.ShardLazy'. -/
def shardLazyCard : Claim7 := { stood := { row := shardLazyRow, standIns := [], harness := (true, "aa5d19bece728d1c723f7ef26e6a0188ff6764ca66d086d2c971fd39debd2930"), looks := true }, kinds := [], alts := [], laidByText := true, laidKinds := [.data, .data], laidTests := true, laidLooks := .later }
def ShardLazyCardSaid : Prop := Claim7.holds Tryz.pinned (.plain (OpenSpec.ofChange shardLazySpec)) shardLazyCard

/-- THE TIED CARD OF 'annalslaw17.ShardQuiet'. -/
def shardQuietCard : Claim7 := { stood := { row := shardQuietRow, standIns := [], harness := (true, "aa5d19bece728d1c723f7ef26e6a0188ff6764ca66d086d2c971fd39debd2930"), looks := true }, kinds := [], alts := [], laidByText := true, laidKinds := [.data, .data], laidTests := true, laidLooks := .later }
def ShardQuietCardSaid : Prop := Claim7.holds Tryz.pinned (.plain (OpenSpec.ofChange shardQuietSpec)) shardQuietCard

/-- THE TIED CARD OF 'annalslaw17.ShardList'. -/
def shardListCard : Claim7 := { stood := { row := shardListRow, standIns := [], harness := (true, "aa5d19bece728d1c723f7ef26e6a0188ff6764ca66d086d2c971fd39debd2930"), looks := true }, kinds := [], alts := [], laidByText := true, laidKinds := [.data, .data], laidTests := true, laidLooks := .later }
def ShardListCardSaid : Prop := Claim7.holds Tryz.pinned (.plain (OpenSpec.ofChange shardListSpec)) shardListCard

/-- THE TIED CARD OF 'annalslaw17.ShardStale'. -/
def shardStaleCard : Claim7 := { stood := { row := shardStaleRow, standIns := [], harness := (true, "aa5d19bece728d1c723f7ef26e6a0188ff6764ca66d086d2c971fd39debd2930"), looks := true }, kinds := [], alts := [], laidByText := true, laidKinds := [.data, .data], laidTests := true, laidLooks := .later }
def ShardStaleCardSaid : Prop := Claim7.holds Tryz.pinned (.plain (OpenSpec.ofChange shardStaleSpec)) shardStaleCard

/-- THE TIED CARD OF 'annalslaw17.ShardScript'. -/
def shardScriptCard : Claim7 := { stood := { row := shardScriptRow, standIns := [], harness := (true, "aa5d19bece728d1c723f7ef26e6a0188ff6764ca66d086d2c971fd39debd2930"), looks := true }, kinds := [], alts := [], laidByText := true, laidKinds := [.data, .data, .data, .data], laidTests := true, laidLooks := .later }
def ShardScriptCardSaid : Prop := Claim7.holds Tryz.pinned (.plain (OpenSpec.ofChange shardScriptSpec)) shardScriptCard

/-- THE TIED CARD OF 'annalslaw17.ShardSurvives'. -/
def shardSurvivesCard : Claim7 := { stood := { row := shardSurvivesRow, standIns := [], harness := (true, "aa5d19bece728d1c723f7ef26e6a0188ff6764ca66d086d2c971fd39debd2930"), looks := true }, kinds := [], alts := [], laidByText := true, laidKinds := [.data, .data], laidTests := true, laidLooks := .later }
def ShardSurvivesCardSaid : Prop := Claim7.holds Tryz.pinned (.plain (OpenSpec.ofChange shardSurvivesSpec)) shardSurvivesCard

/-- THE TIED CARD OF 'annalslaw17.ShardEngines'. -/
def shardEnginesCard : Claim7 := { stood := { row := shardEnginesRow, standIns := [], harness := (true, "aa5d19bece728d1c723f7ef26e6a0188ff6764ca66d086d2c971fd39debd2930"), looks := true }, kinds := [], alts := [], laidByText := true, laidKinds := [.data, .data], laidTests := true, laidLooks := .later }
def ShardEnginesCardSaid : Prop := Claim7.holds Tryz.pinned (.plain (OpenSpec.ofChange shardEnginesSpec)) shardEnginesCard

/-- THE SECOND FORM's CARD OF 'annalslaw17.ShardLazy'. -/
def shardLazyUptoCard : Claim7 := { stood := { row := shardLazyUptoRow, standIns := [], harness := (true, "aa5d19bece728d1c723f7ef26e6a0188ff6764ca66d086d2c971fd39debd2930"), looks := true }, kinds := [], alts := [], laidByText := true, laidKinds := [.data, .data], laidTests := true, laidLooks := .later }
def ShardLazyUptoCardSaid : Prop := Claim7.holds Tryz.pinned (.plain (OpenSpec.upto shardLazySpec)) shardLazyUptoCard

/-- THE SECOND FORM's CARD OF 'annalslaw17.ShardQuiet'. -/
def shardQuietUptoCard : Claim7 := { stood := { row := shardQuietUptoRow, standIns := [], harness := (true, "aa5d19bece728d1c723f7ef26e6a0188ff6764ca66d086d2c971fd39debd2930"), looks := true }, kinds := [], alts := [], laidByText := true, laidKinds := [.data, .data], laidTests := true, laidLooks := .later }
def ShardQuietUptoCardSaid : Prop := Claim7.holds Tryz.pinned (.plain (OpenSpec.upto shardQuietSpec)) shardQuietUptoCard

/-- THE SECOND FORM's CARD OF 'annalslaw17.ShardList'. -/
def shardListUptoCard : Claim7 := { stood := { row := shardListUptoRow, standIns := [], harness := (true, "aa5d19bece728d1c723f7ef26e6a0188ff6764ca66d086d2c971fd39debd2930"), looks := true }, kinds := [], alts := [], laidByText := true, laidKinds := [.data, .data], laidTests := true, laidLooks := .later }
def ShardListUptoCardSaid : Prop := Claim7.holds Tryz.pinned (.plain (OpenSpec.upto shardListSpec)) shardListUptoCard

/-- THE SECOND FORM's CARD OF 'annalslaw17.ShardStale'. -/
def shardStaleUptoCard : Claim7 := { stood := { row := shardStaleUptoRow, standIns := [], harness := (true, "aa5d19bece728d1c723f7ef26e6a0188ff6764ca66d086d2c971fd39debd2930"), looks := true }, kinds := [], alts := [], laidByText := true, laidKinds := [.data, .data], laidTests := true, laidLooks := .later }
def ShardStaleUptoCardSaid : Prop := Claim7.holds Tryz.pinned (.plain (OpenSpec.upto shardStaleSpec)) shardStaleUptoCard

/-- THE SECOND FORM's CARD OF 'annalslaw17.ShardScript'. -/
def shardScriptUptoCard : Claim7 := { stood := { row := shardScriptUptoRow, standIns := [], harness := (true, "aa5d19bece728d1c723f7ef26e6a0188ff6764ca66d086d2c971fd39debd2930"), looks := true }, kinds := [], alts := [], laidByText := true, laidKinds := [.data, .data, .data, .data], laidTests := true, laidLooks := .later }
def ShardScriptUptoCardSaid : Prop := Claim7.holds Tryz.pinned (.plain (OpenSpec.upto shardScriptSpec)) shardScriptUptoCard

/-- THE SECOND FORM's CARD OF 'annalslaw17.ShardSurvives'. -/
def shardSurvivesUptoCard : Claim7 := { stood := { row := shardSurvivesUptoRow, standIns := [], harness := (true, "aa5d19bece728d1c723f7ef26e6a0188ff6764ca66d086d2c971fd39debd2930"), looks := true }, kinds := [], alts := [], laidByText := true, laidKinds := [.data, .data], laidTests := true, laidLooks := .later }
def ShardSurvivesUptoCardSaid : Prop := Claim7.holds Tryz.pinned (.plain (OpenSpec.upto shardSurvivesSpec)) shardSurvivesUptoCard

/-- THE SECOND FORM's CARD OF 'annalslaw17.ShardEngines'. -/
def shardEnginesUptoCard : Claim7 := { stood := { row := shardEnginesUptoRow, standIns := [], harness := (true, "aa5d19bece728d1c723f7ef26e6a0188ff6764ca66d086d2c971fd39debd2930"), looks := true }, kinds := [], alts := [], laidByText := true, laidKinds := [.data, .data], laidTests := true, laidLooks := .later }
def ShardEnginesUptoCardSaid : Prop := Claim7.holds Tryz.pinned (.plain (OpenSpec.upto shardEnginesSpec)) shardEnginesUptoCard
end Rows
end Go.Proofs.YtblkehdpenfhjaaGreatDoor
