/-
  DERIVED. GIVEN WITH THE SEED: THE CARDS: each row of YtibbjfmgglmkkaaDoorRows.lean that lists a variable, with what it lists TIED to the program's text (the seventh form; the later family's looks); each row that meets fmt, with fmt's text TOLD by the authors' own Lean function (tested against real Go, not proved from fmt's source: count such statements apart). THE CARD IS WHAT COUNTS. Prove the row's statement (the work); the ties are given (YtibbjfmgglmkkaaDoorTie.lean); close each card by the builder's one call (the guide's Derived/Test/ToyasCard.lean, 'card_holds'). Laid BY PROGRAM, IN A SANDBOX (cutbox-door.mjs). By AI agents, Wed Nov 11 2026. No macro, syntax, notation, axiom, sorry.
-/
import Derived.Test.YtibbjfmgglmkkaaDoorRows
import GoSem.ClaimSeven
namespace Go.Proofs.YtibbjfmgglmkkaaDoor
namespace Rows

/-- THE TIED CARD OF 'jobshelllaw30.FormatEchos'. -/
def formatEchosCard : Claim7 := { stood := { row := formatEchosRow, standIns := [], harness := (true, "36203a062fbaa2ed1a7e3ac59478a92aadfa30ec2c8140606f9f608f17f198ab"), looks := true }, kinds := [], alts := [], laidByText := true, laidKinds := [.data, .data, .data, .data, .sentinel, .sentinel, .pinned], laidTests := true, laidLooks := .later }
def FormatEchosCardSaid : Prop := Claim7.holds Tryd.pinned (.plain (OpenSpec.ofChange formatEchosSpec)) formatEchosCard

/-- THE TIED CARD OF 'jobshelllaw30.FormatPlain'. -/
def formatPlainCard : Claim7 := { stood := { row := formatPlainRow, standIns := [], harness := (true, "36203a062fbaa2ed1a7e3ac59478a92aadfa30ec2c8140606f9f608f17f198ab"), looks := true }, kinds := [], alts := [], laidByText := true, laidKinds := [.data, .data, .data, .data, .sentinel, .sentinel, .pinned], laidTests := true, laidLooks := .later }
def FormatPlainCardSaid : Prop := Claim7.holds Tryd.pinned (.plain (OpenSpec.ofChange formatPlainSpec)) formatPlainCard

/-- THE TIED CARD OF 'jobshelllaw30.FormatNumbers'. -/
def formatNumbersCard : Claim7 := { stood := { row := formatNumbersRow, standIns := [], harness := (true, "36203a062fbaa2ed1a7e3ac59478a92aadfa30ec2c8140606f9f608f17f198ab"), looks := true }, kinds := [], alts := [], laidByText := true, laidKinds := [.data, .data, .data, .data, .sentinel, .sentinel, .pinned], laidTests := true, laidLooks := .later }
def FormatNumbersCardSaid : Prop := Claim7.holds Tryd.pinned (.plain (OpenSpec.ofChange formatNumbersSpec)) formatNumbersCard

/-- THE TIED CARD OF 'jobshelllaw30.FormatEnds'. -/
def formatEndsCard : Claim7 := { stood := { row := formatEndsRow, standIns := [], harness := (true, "36203a062fbaa2ed1a7e3ac59478a92aadfa30ec2c8140606f9f608f17f198ab"), looks := true }, kinds := [], alts := [], laidByText := true, laidKinds := [.data, .data, .data, .data, .sentinel, .sentinel, .pinned], laidTests := true, laidLooks := .later }
def FormatEndsCardSaid : Prop := Claim7.holds Tryd.pinned (.plain (OpenSpec.ofChange formatEndsSpec)) formatEndsCard

/-- THE SECOND FORM's CARD OF 'jobshelllaw30.FormatEchos'. -/
def formatEchosUptoCard : Claim7 := { stood := { row := formatEchosUptoRow, standIns := [], harness := (true, "36203a062fbaa2ed1a7e3ac59478a92aadfa30ec2c8140606f9f608f17f198ab"), looks := true }, kinds := [], alts := [], laidByText := true, laidKinds := [.data, .data, .data, .data, .sentinel, .sentinel, .pinned], laidTests := true, laidLooks := .later }
def FormatEchosUptoCardSaid : Prop := Claim7.holds Tryd.pinned (.plain (OpenSpec.upto formatEchosSpec)) formatEchosUptoCard

/-- THE SECOND FORM's CARD OF 'jobshelllaw30.FormatPlain'. -/
def formatPlainUptoCard : Claim7 := { stood := { row := formatPlainUptoRow, standIns := [], harness := (true, "36203a062fbaa2ed1a7e3ac59478a92aadfa30ec2c8140606f9f608f17f198ab"), looks := true }, kinds := [], alts := [], laidByText := true, laidKinds := [.data, .data, .data, .data, .sentinel, .sentinel, .pinned], laidTests := true, laidLooks := .later }
def FormatPlainUptoCardSaid : Prop := Claim7.holds Tryd.pinned (.plain (OpenSpec.upto formatPlainSpec)) formatPlainUptoCard

/-- THE SECOND FORM's CARD OF 'jobshelllaw30.FormatNumbers'. -/
def formatNumbersUptoCard : Claim7 := { stood := { row := formatNumbersUptoRow, standIns := [], harness := (true, "36203a062fbaa2ed1a7e3ac59478a92aadfa30ec2c8140606f9f608f17f198ab"), looks := true }, kinds := [], alts := [], laidByText := true, laidKinds := [.data, .data, .data, .data, .sentinel, .sentinel, .pinned], laidTests := true, laidLooks := .later }
def FormatNumbersUptoCardSaid : Prop := Claim7.holds Tryd.pinned (.plain (OpenSpec.upto formatNumbersSpec)) formatNumbersUptoCard

/-- THE SECOND FORM's CARD OF 'jobshelllaw30.FormatEnds'. -/
def formatEndsUptoCard : Claim7 := { stood := { row := formatEndsUptoRow, standIns := [], harness := (true, "36203a062fbaa2ed1a7e3ac59478a92aadfa30ec2c8140606f9f608f17f198ab"), looks := true }, kinds := [], alts := [], laidByText := true, laidKinds := [.data, .data, .data, .data, .sentinel, .sentinel, .pinned], laidTests := true, laidLooks := .later }
def FormatEndsUptoCardSaid : Prop := Claim7.holds Tryd.pinned (.plain (OpenSpec.upto formatEndsSpec)) formatEndsUptoCard
end Rows
end Go.Proofs.YtibbjfmgglmkkaaDoor
