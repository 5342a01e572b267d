/-
  DERIVED. GIVEN WITH THE SEED: THE CARDS: each row of YtjojemebfojpnaaGreatDoorRows.lean that lists a variable, with what it lists TIED to the program's text (the seventh form; the later family's looks); each row that meets fmt, with fmt's text TOLD by the authors' own Lean function (tested against real Go, not proved from fmt's source: count such statements apart). THE CARD IS WHAT COUNTS. Prove the row's statement (the work); the ties are given (YtjojemebfojpnaaGreatDoorTie.lean); close each card by the builder's one call (the guide's Derived/Test/ToyasCard.lean, 'card_holds'). Laid BY PROGRAM, IN A SANDBOX (cutbox-door.mjs). By AI agents, Wed Nov 11 2026. No macro, syntax, notation, axiom, sorry.
-/
import Derived.Test.YtjojemebfojpnaaGreatDoorRows
import GoSem.ClaimSeven
namespace Go.Proofs.YtjojemebfojpnaaGreatDoor
namespace Rows

/-- THE TIED CARD OF 'backhaullaw12.VaultNobody'. -/
def vaultNobodyCard : Claim7 := { stood := { row := vaultNobodyRow, standIns := [], harness := (true, "cbc097fbffe06f4d8600770d03cc4df1886f454060f72ee60806852911d0dd7c"), looks := true }, kinds := [], alts := [], laidByText := true, laidKinds := [.data, .pinned], laidTests := true, laidLooks := .later }
def VaultNobodyCardSaid : Prop := Claim7.holds Tryz.pinned (.plain (OpenSpec.ofChange vaultNobodySpec)) vaultNobodyCard

/-- THE TIED CARD OF 'backhaullaw11.TrailFalls'. -/
def trailFallsCard : Claim7 := { stood := { row := trailFallsRow, standIns := [], harness := (true, "cbc097fbffe06f4d8600770d03cc4df1886f454060f72ee60806852911d0dd7c"), looks := true }, kinds := [], alts := [], laidByText := true, laidKinds := [.data, .pinned], laidTests := true, laidLooks := .later }
def TrailFallsCardSaid : Prop := Claim7.holds Tryz.pinned (.plain (OpenSpec.ofChange trailFallsSpec)) trailFallsCard

/-- THE TIED CARD OF 'backhaullaw12.VaultKeeps'. -/
def vaultKeepsCard : Claim7 := { stood := { row := vaultKeepsRow, standIns := [], harness := (true, "cbc097fbffe06f4d8600770d03cc4df1886f454060f72ee60806852911d0dd7c"), looks := true }, kinds := [], alts := [], laidByText := true, laidKinds := [.data, .pinned], laidTests := true, laidLooks := .later }
def VaultKeepsCardSaid : Prop := Claim7.holds Tryz.pinned (.plain (OpenSpec.ofChange vaultKeepsSpec)) vaultKeepsCard

/-- THE TIED CARD OF 'backhaullaw12.VaultFalls'. -/
def vaultFallsCard : Claim7 := { stood := { row := vaultFallsRow, standIns := [], harness := (true, "cbc097fbffe06f4d8600770d03cc4df1886f454060f72ee60806852911d0dd7c"), looks := true }, kinds := [], alts := [], laidByText := true, laidKinds := [.data, .pinned], laidTests := true, laidLooks := .later }
def VaultFallsCardSaid : Prop := Claim7.holds Tryz.pinned (.plain (OpenSpec.ofChange vaultFallsSpec)) vaultFallsCard

/-- THE SECOND FORM's CARD OF 'backhaullaw12.VaultNobody'. -/
def vaultNobodyUptoCard : Claim7 := { stood := { row := vaultNobodyUptoRow, standIns := [], harness := (true, "cbc097fbffe06f4d8600770d03cc4df1886f454060f72ee60806852911d0dd7c"), looks := true }, kinds := [], alts := [], laidByText := true, laidKinds := [.data, .pinned], laidTests := true, laidLooks := .later }
def VaultNobodyUptoCardSaid : Prop := Claim7.holds Tryz.pinned (.plain (OpenSpec.upto vaultNobodySpec)) vaultNobodyUptoCard

/-- THE SECOND FORM's CARD OF 'backhaullaw11.TrailFalls'. -/
def trailFallsUptoCard : Claim7 := { stood := { row := trailFallsUptoRow, standIns := [], harness := (true, "cbc097fbffe06f4d8600770d03cc4df1886f454060f72ee60806852911d0dd7c"), looks := true }, kinds := [], alts := [], laidByText := true, laidKinds := [.data, .pinned], laidTests := true, laidLooks := .later }
def TrailFallsUptoCardSaid : Prop := Claim7.holds Tryz.pinned (.plain (OpenSpec.upto trailFallsSpec)) trailFallsUptoCard

/-- THE SECOND FORM's CARD OF 'backhaullaw12.VaultKeeps'. -/
def vaultKeepsUptoCard : Claim7 := { stood := { row := vaultKeepsUptoRow, standIns := [], harness := (true, "cbc097fbffe06f4d8600770d03cc4df1886f454060f72ee60806852911d0dd7c"), looks := true }, kinds := [], alts := [], laidByText := true, laidKinds := [.data, .pinned], laidTests := true, laidLooks := .later }
def VaultKeepsUptoCardSaid : Prop := Claim7.holds Tryz.pinned (.plain (OpenSpec.upto vaultKeepsSpec)) vaultKeepsUptoCard

/-- THE SECOND FORM's CARD OF 'backhaullaw12.VaultFalls'. -/
def vaultFallsUptoCard : Claim7 := { stood := { row := vaultFallsUptoRow, standIns := [], harness := (true, "cbc097fbffe06f4d8600770d03cc4df1886f454060f72ee60806852911d0dd7c"), looks := true }, kinds := [], alts := [], laidByText := true, laidKinds := [.data, .pinned], laidTests := true, laidLooks := .later }
def VaultFallsUptoCardSaid : Prop := Claim7.holds Tryz.pinned (.plain (OpenSpec.upto vaultFallsSpec)) vaultFallsUptoCard
end Rows
end Go.Proofs.YtjojemebfojpnaaGreatDoor
