/-
  No cell of these rows narrows 'for every input' (looked for: loops, veiled, ifaces, maps, wideKeys, modest, calm, conditions, laid).
  DERIVED. THE GIVEN ROWS OF THIS SEAT. 8 by the template 'for every input the law returns true; each argument reads behind the call as it read before'; 0 by the template 'total and deterministic' (their statements: YgcfaeTotals.lean).
  GIVEN WITH THE SEED: the statements are not yours to turn. If you find one false, say at which input.
  Laid BY PROGRAM, IN A SANDBOX (cutbox-rows.mjs): the forced cells as the released guide's own fill.sh prints them over the translation ae2130b8d45ae031… (all of the seat's roots in one cut). By AI agents, Wed Nov 11 2026. No macro, syntax, notation, axiom, sorry.
-/
import Derived.Test.YgcfaeChecked
import GoSem.Claim
import GoSem.ClaimJoined
import GoSem.ClaimMapViews
import Derived.JoinedTies
import Derived.KernelRfl
namespace Go.Proofs.Ygcfae
/- THE CELL 'sum', in the pinned program and in every row, IS THE sha256 OF THE DUMP (.gsa) THAT YgcfaeProg.lean LOADS. Nothing in Lean hashes anything: it is a label: what it is worth is what the hold of that sum in a sandbox is worth. -/
noncomputable def Faeg.pinned : Pinned := { name := "ygcfae", sum := "ae2130b8d45ae031fbc58b7d75f8f932e50698ff8ab625d8e67c3cbca78bd63e", checked := Faeg.checked }
namespace Rows
def none {H : Type} : Left H := { results := [], args := [] }

/-- 'law.RecStable': WHATEVER THE INPUT: true; the input reads as it did. -/
def recStableSpec : ChangeSpec := { name := "recStable", fn := fun _ => fun
  | [d1, d2] => { results := [.lit (.bool true)], args := [d1, d2] }
  | _ => none }
def recStableRow : OpenClaim := { program := "ygcfae", sum := "ae2130b8d45ae031fbc58b7d75f8f932e50698ff8ab625d8e67c3cbca78bd63e", func := "wordview/law.RecStable", spec := "recStable", apart := false }
def RecStableSaid : Prop := recStableRow.holds Faeg.pinned (OpenSpec.ofChange recStableSpec)

/-- ITS FALSE NEIGHBOUR: 'it returns false'. Refute it at one input. -/
def recStableWrong : ChangeSpec := { name := "recStable", fn := fun _ => fun
  | [d1, d2] => { results := [.lit (.bool false)], args := [d1, d2] }
  | _ => none }
def RecStableWrongFalsely : Prop := recStableRow.holds Faeg.pinned (OpenSpec.ofChange recStableWrong)

/-- 'law.RecSound': WHATEVER THE INPUT: true; the input reads as it did. -/
def recSoundSpec : ChangeSpec := { name := "recSound", fn := fun _ => fun
  | [d] => { results := [.lit (.bool true)], args := [d] }
  | _ => none }
def recSoundRow : OpenClaim := { program := "ygcfae", sum := "ae2130b8d45ae031fbc58b7d75f8f932e50698ff8ab625d8e67c3cbca78bd63e", func := "wordview/law.RecSound", spec := "recSound", apart := false }
def RecSoundSaid : Prop := recSoundRow.holds Faeg.pinned (OpenSpec.ofChange recSoundSpec)

/-- ITS FALSE NEIGHBOUR: 'it returns false'. Refute it at one input. -/
def recSoundWrong : ChangeSpec := { name := "recSound", fn := fun _ => fun
  | [d] => { results := [.lit (.bool false)], args := [d] }
  | _ => none }
def RecSoundWrongFalsely : Prop := recSoundRow.holds Faeg.pinned (OpenSpec.ofChange recSoundWrong)

/-- 'law.RecText': WHATEVER THE INPUT: true; the input reads as it did. -/
def recTextSpec : ChangeSpec := { name := "recText", fn := fun _ => fun
  | [d] => { results := [.lit (.bool true)], args := [d] }
  | _ => none }
def recTextRow : OpenClaim := { program := "ygcfae", sum := "ae2130b8d45ae031fbc58b7d75f8f932e50698ff8ab625d8e67c3cbca78bd63e", func := "wordview/law.RecText", spec := "recText", apart := false }
def RecTextSaid : Prop := recTextRow.holds Faeg.pinned (OpenSpec.ofChange recTextSpec)

/-- ITS FALSE NEIGHBOUR: 'it returns false'. Refute it at one input. -/
def recTextWrong : ChangeSpec := { name := "recText", fn := fun _ => fun
  | [d] => { results := [.lit (.bool false)], args := [d] }
  | _ => none }
def RecTextWrongFalsely : Prop := recTextRow.holds Faeg.pinned (OpenSpec.ofChange recTextWrong)

/-- 'law.RecTextTotal': WHATEVER THE INPUT: true; the input reads as it did. -/
def recTextTotalSpec : ChangeSpec := { name := "recTextTotal", fn := fun _ => fun
  | [d] => { results := [.lit (.bool true)], args := [d] }
  | _ => none }
def recTextTotalRow : OpenClaim := { program := "ygcfae", sum := "ae2130b8d45ae031fbc58b7d75f8f932e50698ff8ab625d8e67c3cbca78bd63e", func := "wordview/law.RecTextTotal", spec := "recTextTotal", apart := false }
def RecTextTotalSaid : Prop := recTextTotalRow.holds Faeg.pinned (OpenSpec.ofChange recTextTotalSpec)

/-- ITS FALSE NEIGHBOUR: 'it returns false'. Refute it at one input. -/
def recTextTotalWrong : ChangeSpec := { name := "recTextTotal", fn := fun _ => fun
  | [d] => { results := [.lit (.bool false)], args := [d] }
  | _ => none }
def RecTextTotalWrongFalsely : Prop := recTextTotalRow.holds Faeg.pinned (OpenSpec.ofChange recTextTotalWrong)

/-- 'law.RecOld': WHATEVER THE INPUT: true; the input reads as it did. -/
def recOldSpec : ChangeSpec := { name := "recOld", fn := fun _ => fun
  | [d] => { results := [.lit (.bool true)], args := [d] }
  | _ => none }
def recOldRow : OpenClaim := { program := "ygcfae", sum := "ae2130b8d45ae031fbc58b7d75f8f932e50698ff8ab625d8e67c3cbca78bd63e", func := "wordview/law.RecOld", spec := "recOld", apart := false }
def RecOldSaid : Prop := recOldRow.holds Faeg.pinned (OpenSpec.ofChange recOldSpec)

/-- ITS FALSE NEIGHBOUR: 'it returns false'. Refute it at one input. -/
def recOldWrong : ChangeSpec := { name := "recOld", fn := fun _ => fun
  | [d] => { results := [.lit (.bool false)], args := [d] }
  | _ => none }
def RecOldWrongFalsely : Prop := recOldRow.holds Faeg.pinned (OpenSpec.ofChange recOldWrong)

/-- 'law.RecCompatible': WHATEVER THE INPUT: true; the input reads as it did. -/
def recCompatibleSpec : ChangeSpec := { name := "recCompatible", fn := fun _ => fun
  | [d1, d2, d3, d4] => { results := [.lit (.bool true)], args := [d1, d2, d3, d4] }
  | _ => none }
def recCompatibleRow : OpenClaim := { program := "ygcfae", sum := "ae2130b8d45ae031fbc58b7d75f8f932e50698ff8ab625d8e67c3cbca78bd63e", func := "wordview/law.RecCompatible", spec := "recCompatible", recurses := true, apart := false }
def RecCompatibleSaid : Prop := recCompatibleRow.holds Faeg.pinned (OpenSpec.ofChange recCompatibleSpec)

/-- ITS FALSE NEIGHBOUR: 'it returns false'. Refute it at one input. -/
def recCompatibleWrong : ChangeSpec := { name := "recCompatible", fn := fun _ => fun
  | [d1, d2, d3, d4] => { results := [.lit (.bool false)], args := [d1, d2, d3, d4] }
  | _ => none }
def RecCompatibleWrongFalsely : Prop := recCompatibleRow.holds Faeg.pinned (OpenSpec.ofChange recCompatibleWrong)

/-- 'law.RecClash': WHATEVER THE INPUT: true; the input reads as it did. -/
def recClashSpec : ChangeSpec := { name := "recClash", fn := fun _ => fun
  | [d1, d2, d3, d4] => { results := [.lit (.bool true)], args := [d1, d2, d3, d4] }
  | _ => none }
def recClashRow : OpenClaim := { program := "ygcfae", sum := "ae2130b8d45ae031fbc58b7d75f8f932e50698ff8ab625d8e67c3cbca78bd63e", func := "wordview/law.RecClash", spec := "recClash", apart := false }
def RecClashSaid : Prop := recClashRow.holds Faeg.pinned (OpenSpec.ofChange recClashSpec)

/-- ITS FALSE NEIGHBOUR: 'it returns false'. Refute it at one input. -/
def recClashWrong : ChangeSpec := { name := "recClash", fn := fun _ => fun
  | [d1, d2, d3, d4] => { results := [.lit (.bool false)], args := [d1, d2, d3, d4] }
  | _ => none }
def RecClashWrongFalsely : Prop := recClashRow.holds Faeg.pinned (OpenSpec.ofChange recClashWrong)

/-- 'law.RecordTextBack': WHATEVER THE INPUT: true; the input reads as it did. -/
def recordTextBackSpec : ChangeSpec := { name := "recordTextBack", fn := fun _ => fun
  | [d1, d2, d3] => { results := [.lit (.bool true)], args := [d1, d2, d3] }
  | _ => none }
def recordTextBackRow : OpenClaim := { program := "ygcfae", sum := "ae2130b8d45ae031fbc58b7d75f8f932e50698ff8ab625d8e67c3cbca78bd63e", func := "wordview/law.RecordTextBack", spec := "recordTextBack", recurses := true, apart := false }
def RecordTextBackSaid : Prop := recordTextBackRow.holds Faeg.pinned (OpenSpec.ofChange recordTextBackSpec)

/-- ITS FALSE NEIGHBOUR: 'it returns false'. Refute it at one input. -/
def recordTextBackWrong : ChangeSpec := { name := "recordTextBack", fn := fun _ => fun
  | [d1, d2, d3] => { results := [.lit (.bool false)], args := [d1, d2, d3] }
  | _ => none }
def RecordTextBackWrongFalsely : Prop := recordTextBackRow.holds Faeg.pinned (OpenSpec.ofChange recordTextBackWrong)

end Rows
end Go.Proofs.Ygcfae
