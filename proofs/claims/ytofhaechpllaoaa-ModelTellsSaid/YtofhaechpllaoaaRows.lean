/-
  No cell of these rows narrows 'for every input' (looked for: loops, veiled, ifaces, maps, wideKeys, modest, calm, conditions, laid).
  DERIVED. THE GIVEN ROWS OF THIS SEAT. 7 by the template 'for every input the law returns true; each argument reads behind the call as it read before'; 0 by the template 'total and deterministic' (their statements: YtofhaechpllaoaaTotals.lean).
  GIVEN WITH THE SEED: the statements are not yours to turn. If you find one false, say at which input.
  Laid BY PROGRAM, IN A SANDBOX (cutbox-rows.mjs): the forced cells as the released guide's own fill.sh prints them over the translation 1d54c1a0a36265ab… (all of the seat's roots in one cut). By AI agents, Wed Nov 11 2026. No macro, syntax, notation, axiom, sorry.
-/
import Derived.Test.YtofhaechpllaoaaChecked
import GoSem.Claim
import GoSem.ClaimJoined
import GoSem.ClaimMapViews
import Derived.JoinedTies
import Derived.KernelRfl
namespace Go.Proofs.Ytofhaechpllaoaa
/- THE CELL 'sum', in the pinned program and in every row, IS THE sha256 OF THE DUMP (.gsa) THAT YtofhaechpllaoaaProg.lean LOADS. Nothing in Lean hashes anything: it is a label: what it is worth is what the hold of that sum in a sandbox is worth. -/
noncomputable def Try.pinned : Pinned := { name := "ytofhaechpllaoaa", sum := "1d54c1a0a36265ab532f234aecb466e89694af498f886a902d33bea09ef73819", checked := Try.checked }
namespace Rows
def none {H : Type} : Left H := { results := [], args := [] }

/-- 'gleaninglaw29.HistoryBefore': WHATEVER THE INPUT: true; the input reads as it did. -/
def historyBeforeSpec : ChangeSpec := { name := "historyBefore", fn := fun _ => fun
  | [d1, d2] => { results := [.lit (.bool true)], args := [d1, d2] }
  | _ => none }
def historyBeforeRow : OpenClaim := { program := "ytofhaechpllaoaa", sum := "1d54c1a0a36265ab532f234aecb466e89694af498f886a902d33bea09ef73819", func := "gleaning/gleaninglaw29.HistoryBefore", spec := "historyBefore", unfollowed := true, recurses := true, apart := false }
def HistoryBeforeSaid : Prop := historyBeforeRow.holds Try.pinned (OpenSpec.ofChange historyBeforeSpec)

/-- ITS FALSE NEIGHBOUR: 'it returns false'. Refute it at one input. -/
def historyBeforeWrong : ChangeSpec := { name := "historyBefore", fn := fun _ => fun
  | [d1, d2] => { results := [.lit (.bool false)], args := [d1, d2] }
  | _ => none }
def HistoryBeforeWrongFalsely : Prop := historyBeforeRow.holds Try.pinned (OpenSpec.ofChange historyBeforeWrong)

/-- 'gleaninglaw29.HistoryCuts': WHATEVER THE INPUT: true; the input reads as it did. -/
def historyCutsSpec : ChangeSpec := { name := "historyCuts", fn := fun _ => fun
  | [d1, d2] => { results := [.lit (.bool true)], args := [d1, d2] }
  | _ => none }
def historyCutsRow : OpenClaim := { program := "ytofhaechpllaoaa", sum := "1d54c1a0a36265ab532f234aecb466e89694af498f886a902d33bea09ef73819", func := "gleaning/gleaninglaw29.HistoryCuts", spec := "historyCuts", unfollowed := true, recurses := true, apart := false }
def HistoryCutsSaid : Prop := historyCutsRow.holds Try.pinned (OpenSpec.ofChange historyCutsSpec)

/-- ITS FALSE NEIGHBOUR: 'it returns false'. Refute it at one input. -/
def historyCutsWrong : ChangeSpec := { name := "historyCuts", fn := fun _ => fun
  | [d1, d2] => { results := [.lit (.bool false)], args := [d1, d2] }
  | _ => none }
def HistoryCutsWrongFalsely : Prop := historyCutsRow.holds Try.pinned (OpenSpec.ofChange historyCutsWrong)

/-- 'gleaninglaw21.ModelSame': WHATEVER THE INPUT: true; the input reads as it did. -/
def modelSameSpec : ChangeSpec := { name := "modelSame", fn := fun _ => fun
  | [d1, d2] => { results := [.lit (.bool true)], args := [d1, d2] }
  | _ => none }
def modelSameRow : OpenClaim := { program := "ytofhaechpllaoaa", sum := "1d54c1a0a36265ab532f234aecb466e89694af498f886a902d33bea09ef73819", func := "gleaning/gleaninglaw21.ModelSame", spec := "modelSame", inPlace := ["slices.overlaps[uint64]"], unfollowed := true, recurses := true, apart := false }
def ModelSameSaid : Prop := modelSameRow.holds Try.pinned (OpenSpec.ofChange modelSameSpec)

/-- ITS FALSE NEIGHBOUR: 'it returns false'. Refute it at one input. -/
def modelSameWrong : ChangeSpec := { name := "modelSame", fn := fun _ => fun
  | [d1, d2] => { results := [.lit (.bool false)], args := [d1, d2] }
  | _ => none }
def ModelSameWrongFalsely : Prop := modelSameRow.holds Try.pinned (OpenSpec.ofChange modelSameWrong)

/-- 'gleaninglaw21.ModelPlays': WHATEVER THE INPUT: true; the input reads as it did. -/
def modelPlaysSpec : ChangeSpec := { name := "modelPlays", fn := fun _ => fun
  | [d1, d2] => { results := [.lit (.bool true)], args := [d1, d2] }
  | _ => none }
def modelPlaysRow : OpenClaim := { program := "ytofhaechpllaoaa", sum := "1d54c1a0a36265ab532f234aecb466e89694af498f886a902d33bea09ef73819", func := "gleaning/gleaninglaw21.ModelPlays", spec := "modelPlays", inPlace := ["slices.overlaps[uint64]"], unfollowed := true, recurses := true, apart := false }
def ModelPlaysSaid : Prop := modelPlaysRow.holds Try.pinned (OpenSpec.ofChange modelPlaysSpec)

/-- ITS FALSE NEIGHBOUR: 'it returns false'. Refute it at one input. -/
def modelPlaysWrong : ChangeSpec := { name := "modelPlays", fn := fun _ => fun
  | [d1, d2] => { results := [.lit (.bool false)], args := [d1, d2] }
  | _ => none }
def ModelPlaysWrongFalsely : Prop := modelPlaysRow.holds Try.pinned (OpenSpec.ofChange modelPlaysWrong)

/-- 'gleaninglaw21.ModelKeeps': WHATEVER THE INPUT: true; the input reads as it did. -/
def modelKeepsSpec : ChangeSpec := { name := "modelKeeps", fn := fun _ => fun
  | [d1, d2, d3] => { results := [.lit (.bool true)], args := [d1, d2, d3] }
  | _ => none }
def modelKeepsRow : OpenClaim := { program := "ytofhaechpllaoaa", sum := "1d54c1a0a36265ab532f234aecb466e89694af498f886a902d33bea09ef73819", func := "gleaning/gleaninglaw21.ModelKeeps", spec := "modelKeeps", inPlace := ["slices.overlaps[uint64]"], unfollowed := true, recurses := true, apart := false }
def ModelKeepsSaid : Prop := modelKeepsRow.holds Try.pinned (OpenSpec.ofChange modelKeepsSpec)

/-- ITS FALSE NEIGHBOUR: 'it returns false'. Refute it at one input. -/
def modelKeepsWrong : ChangeSpec := { name := "modelKeeps", fn := fun _ => fun
  | [d1, d2, d3] => { results := [.lit (.bool false)], args := [d1, d2, d3] }
  | _ => none }
def ModelKeepsWrongFalsely : Prop := modelKeepsRow.holds Try.pinned (OpenSpec.ofChange modelKeepsWrong)

/-- 'gleaninglaw21.ModelTells': WHATEVER THE INPUT: true; the input reads as it did. -/
def modelTellsSpec : ChangeSpec := { name := "modelTells", fn := fun _ => fun
  | [d1, d2] => { results := [.lit (.bool true)], args := [d1, d2] }
  | _ => none }
def modelTellsRow : OpenClaim := { program := "ytofhaechpllaoaa", sum := "1d54c1a0a36265ab532f234aecb466e89694af498f886a902d33bea09ef73819", func := "gleaning/gleaninglaw21.ModelTells", spec := "modelTells", inPlace := ["slices.overlaps[uint64]"], unfollowed := true, recurses := true, apart := false }
def ModelTellsSaid : Prop := modelTellsRow.holds Try.pinned (OpenSpec.ofChange modelTellsSpec)

/-- ITS FALSE NEIGHBOUR: 'it returns false'. Refute it at one input. -/
def modelTellsWrong : ChangeSpec := { name := "modelTells", fn := fun _ => fun
  | [d1, d2] => { results := [.lit (.bool false)], args := [d1, d2] }
  | _ => none }
def ModelTellsWrongFalsely : Prop := modelTellsRow.holds Try.pinned (OpenSpec.ofChange modelTellsWrong)

/-- 'gleaninglaw21.ModelNobody': WHATEVER THE INPUT: true; the input reads as it did. -/
def modelNobodySpec : ChangeSpec := { name := "modelNobody", fn := fun _ => fun
  | [d] => { results := [.lit (.bool true)], args := [d] }
  | _ => none }
def modelNobodyRow : OpenClaim := { program := "ytofhaechpllaoaa", sum := "1d54c1a0a36265ab532f234aecb466e89694af498f886a902d33bea09ef73819", func := "gleaning/gleaninglaw21.ModelNobody", spec := "modelNobody", inPlace := ["slices.overlaps[uint64]"], unfollowed := true, recurses := true, apart := false }
def ModelNobodySaid : Prop := modelNobodyRow.holds Try.pinned (OpenSpec.ofChange modelNobodySpec)

/-- ITS FALSE NEIGHBOUR: 'it returns false'. Refute it at one input. -/
def modelNobodyWrong : ChangeSpec := { name := "modelNobody", fn := fun _ => fun
  | [d] => { results := [.lit (.bool false)], args := [d] }
  | _ => none }
def ModelNobodyWrongFalsely : Prop := modelNobodyRow.holds Try.pinned (OpenSpec.ofChange modelNobodyWrong)

/- THE SECOND FORM. 'bulk': how many values and letters a reading holds, each counted each time it is reached (what is shared counts as often as it is met; a slice's spare places count too). A statement '..UptoSaid' is the law's where the arguments, and the package variables that the reading takes, are together of bulk at most 1048576: NARROWER than '..Said'. Prove '..Said' where nothing that the law and all that it calls make is longer than what came in: it says more and counts as full. Else prove '..UptoSaid'. A law counts once. -/
mutual
def uptoBulk {H : Type} : DataW H → Nat
  | .lit (.string bytes) => bytes.length + 1
  | .lit _ => 1
  | .nil => 1
  | .ptr d => uptoBulk d + 1
  | .slice elems spare => uptoBulkAll elems + uptoBulkAll spare + 1
  | .agg parts => uptoBulkAll parts + 1
  | .iface _ d => uptoBulk d + 1
  | .map entries => uptoBulkEntries entries + 1
  | .held _ => 1
def uptoBulkAll {H : Type} : List (DataW H) → Nat
  | [] => 0
  | d :: r => uptoBulk d + uptoBulkAll r
def uptoBulkEntries {H : Type} : List (Lit × DataW H) → Nat
  | [] => 0
  | x :: r => uptoBulkEntry x + uptoBulkEntries r
def uptoBulkEntry {H : Type} : Lit × DataW H → Nat
  | (.string bytes, d) => bytes.length + uptoBulk d + 1
  | (_, d) => uptoBulk d + 1
 end
def uptoSmall : (H : Type) → List (DataW H) → Bool := fun _ ds => decide (uptoBulkAll ds ≤ 1048576)
def OpenSpec.upto (s : _root_.Go.ChangeSpec) : _root_.Go.OpenSpec := { _root_.Go.OpenSpec.ofChange s with cond := some uptoSmall }

/-- 'gleaninglaw29.HistoryBefore', WHERE WHAT IT READS IS OF BULK AT MOST 1048576: true; the input reads as it did. -/
def historyBeforeUptoRow : OpenClaim := { program := "ytofhaechpllaoaa", sum := "1d54c1a0a36265ab532f234aecb466e89694af498f886a902d33bea09ef73819", func := "gleaning/gleaninglaw29.HistoryBefore", spec := "historyBefore", unfollowed := true, recurses := true, apart := false, narrowed := true }
def HistoryBeforeUptoSaid : Prop := historyBeforeUptoRow.holds Try.pinned (OpenSpec.upto historyBeforeSpec)

/-- 'gleaninglaw29.HistoryCuts', WHERE WHAT IT READS IS OF BULK AT MOST 1048576: true; the input reads as it did. -/
def historyCutsUptoRow : OpenClaim := { program := "ytofhaechpllaoaa", sum := "1d54c1a0a36265ab532f234aecb466e89694af498f886a902d33bea09ef73819", func := "gleaning/gleaninglaw29.HistoryCuts", spec := "historyCuts", unfollowed := true, recurses := true, apart := false, narrowed := true }
def HistoryCutsUptoSaid : Prop := historyCutsUptoRow.holds Try.pinned (OpenSpec.upto historyCutsSpec)

/-- 'gleaninglaw21.ModelSame', WHERE WHAT IT READS IS OF BULK AT MOST 1048576: true; the input reads as it did. -/
def modelSameUptoRow : OpenClaim := { program := "ytofhaechpllaoaa", sum := "1d54c1a0a36265ab532f234aecb466e89694af498f886a902d33bea09ef73819", func := "gleaning/gleaninglaw21.ModelSame", spec := "modelSame", inPlace := ["slices.overlaps[uint64]"], unfollowed := true, recurses := true, apart := false, narrowed := true }
def ModelSameUptoSaid : Prop := modelSameUptoRow.holds Try.pinned (OpenSpec.upto modelSameSpec)

/-- 'gleaninglaw21.ModelPlays', WHERE WHAT IT READS IS OF BULK AT MOST 1048576: true; the input reads as it did. -/
def modelPlaysUptoRow : OpenClaim := { program := "ytofhaechpllaoaa", sum := "1d54c1a0a36265ab532f234aecb466e89694af498f886a902d33bea09ef73819", func := "gleaning/gleaninglaw21.ModelPlays", spec := "modelPlays", inPlace := ["slices.overlaps[uint64]"], unfollowed := true, recurses := true, apart := false, narrowed := true }
def ModelPlaysUptoSaid : Prop := modelPlaysUptoRow.holds Try.pinned (OpenSpec.upto modelPlaysSpec)

/-- 'gleaninglaw21.ModelKeeps', WHERE WHAT IT READS IS OF BULK AT MOST 1048576: true; the input reads as it did. -/
def modelKeepsUptoRow : OpenClaim := { program := "ytofhaechpllaoaa", sum := "1d54c1a0a36265ab532f234aecb466e89694af498f886a902d33bea09ef73819", func := "gleaning/gleaninglaw21.ModelKeeps", spec := "modelKeeps", inPlace := ["slices.overlaps[uint64]"], unfollowed := true, recurses := true, apart := false, narrowed := true }
def ModelKeepsUptoSaid : Prop := modelKeepsUptoRow.holds Try.pinned (OpenSpec.upto modelKeepsSpec)

/-- 'gleaninglaw21.ModelTells', WHERE WHAT IT READS IS OF BULK AT MOST 1048576: true; the input reads as it did. -/
def modelTellsUptoRow : OpenClaim := { program := "ytofhaechpllaoaa", sum := "1d54c1a0a36265ab532f234aecb466e89694af498f886a902d33bea09ef73819", func := "gleaning/gleaninglaw21.ModelTells", spec := "modelTells", inPlace := ["slices.overlaps[uint64]"], unfollowed := true, recurses := true, apart := false, narrowed := true }
def ModelTellsUptoSaid : Prop := modelTellsUptoRow.holds Try.pinned (OpenSpec.upto modelTellsSpec)

/-- 'gleaninglaw21.ModelNobody', WHERE WHAT IT READS IS OF BULK AT MOST 1048576: true; the input reads as it did. -/
def modelNobodyUptoRow : OpenClaim := { program := "ytofhaechpllaoaa", sum := "1d54c1a0a36265ab532f234aecb466e89694af498f886a902d33bea09ef73819", func := "gleaning/gleaninglaw21.ModelNobody", spec := "modelNobody", inPlace := ["slices.overlaps[uint64]"], unfollowed := true, recurses := true, apart := false, narrowed := true }
def ModelNobodyUptoSaid : Prop := modelNobodyUptoRow.holds Try.pinned (OpenSpec.upto modelNobodySpec)

end Rows
end Go.Proofs.Ytofhaechpllaoaa
