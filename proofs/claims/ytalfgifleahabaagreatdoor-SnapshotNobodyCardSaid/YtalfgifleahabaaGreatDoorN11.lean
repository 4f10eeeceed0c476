/-
  A world in which the row's variables hold what the row lists: so that the row speaks of something.
-/
import Derived.Test.YtalfgifleahabaaGreatDoorRows
import Derived.Deep.DeepLaidRun
import Derived.LaidMore
import Derived.MakeChecks
import Derived.Handed
import Derived.KernelRfl
namespace Go.Proofs.YtalfgifleahabaaGreatDoor.sn
open Go
set_option maxRecDepth 100000

def litV : Lit → Value
  | .int k n => .int k n
  | .string b => .string ⟨⟨b⟩⟩
  | _ => undef
/-- The cells of a table of numbers, or of structs of numbers. -/
def flat : DataW Unit → List Value
  | .agg ds => ds.flatMap fun d => match d with
    | .lit l => [litV l]
    | .agg es => es.map fun e => match e with
      | .lit l => litV l
      | _ => undef
    | _ => [undef]
  | _ => []
def globs : List (List Value × TypeId) := [(flat Rows.laid_internal_strconv_uint64pow10, 391), (flat Rows.laid_math_bits_deBruijn64tab, 394), ([.slice (some ⟨16, 0, none⟩) 1 1, .slice (some ⟨17, 0, none⟩) 1 1, .slice (some ⟨18, 0, none⟩) 2 2, .slice (some ⟨19, 0, none⟩) 4 4, .slice (some ⟨20, 0, none⟩) 2 2, .slice (some ⟨21, 0, none⟩) 3 3], 469), ([.slice (some ⟨22, 0, none⟩) 1 1, .slice (some ⟨23, 0, none⟩) 1 1, .slice (some ⟨24, 0, none⟩) 2 2, .slice (some ⟨25, 0, none⟩) 4 4, .slice (some ⟨26, 0, none⟩) 2 2, .slice (some ⟨27, 0, none⟩) 3 3], 470), (flat Rows.laid_math_bits_deBruijn32tab, 535), ([.int .i64 0], 3), (flat Rows.laid_unicode_utf8_first, 666), (flat Rows.laid_unicode_utf8_acceptRanges, 669), (flat Rows.laid_strings_asciiSpace, 666), ([.pointer (some ⟨28, 0, none⟩)], 694), ([.pointer none], 694)]
def extra : List (List Value × TypeId) := [([.string ⟨#[124, 124]⟩], 9), ([.string ⟨#[38, 38]⟩], 9), ([.string ⟨#[61, 61]⟩, .string ⟨#[33, 61]⟩], 9), ([.string ⟨#[60]⟩, .string ⟨#[60, 61]⟩, .string ⟨#[62]⟩, .string ⟨#[62, 61]⟩], 9), ([.string ⟨#[43]⟩, .string ⟨#[45]⟩], 9), ([.string ⟨#[42]⟩, .string ⟨#[47]⟩, .string ⟨#[37]⟩], 9), ([.int .i64 7], 3), ([.int .i64 8], 3), ([.int .i64 9, .int .i64 10], 3), ([.int .i64 11, .int .i64 12, .int .i64 13, .int .i64 14], 3), ([.int .i64 15, .int .i64 16], 3), ([.int .i64 17, .int .i64 18, .int .i64 19], 3), ([.slice (some ⟨29, 0, none⟩) 7 7, .slice none 0 0, .int .i64 2], 698), ([.int .u16 9, .int .u16 13, .int .u16 1, .int .u16 32, .int .u16 133, .int .u16 101, .int .u16 160, .int .u16 5760, .int .u16 5600, .int .u16 8192, .int .u16 8202, .int .u16 1, .int .u16 8232, .int .u16 8233, .int .u16 1, .int .u16 8239, .int .u16 8287, .int .u16 48, .int .u16 12288, .int .u16 12288, .int .u16 1], 701)]
def objs (l : List (List Value × TypeId)) : List Obj := l.map fun x => .cells x.1.toArray x.2 (0, 0)
noncomputable def laidWorld (os : Os) : World := { World.settled Tryz.prog os with heap := (objs globs ++ (World.settled Tryz.prog os).heap.toList.drop 11 ++ objs extra).toArray }
noncomputable def laidCall (os : Os) : World := (laidWorld os).forCall (fun _ _ => 0) ⟨#[], #[], []⟩

theorem wShape1 (os : Os) : (laidCall os).variablesRefB Tryz.prog = true := by kernel_rfl
theorem wShape2 (os : Os) : ((laidCall os).heap.toList.drop Tryz.prog.globals.size).take ((begin Tryz.prog (fun _ _ => 0) default).world.heap.size - Tryz.prog.globals.size) =
      (begin Tryz.prog (fun _ _ => 0) default).world.heap.toList.drop Tryz.prog.globals.size := by kernel_rfl
theorem wRun1 (os : Os) : (DataW.laidRun Tryz.prog (laidCall os).memory 8 (Rows.snapshotNobodyRow.laid.map (·.1))).map (·.1) = some Rows.snapshotNobodyRow.laid := by kernel_rfl
theorem wRun2 (os : Os) : (DataW.laidRun Tryz.prog (laidCall os).memory 8 (Rows.snapshotNobodyRow.laid.map (·.1))).map (fun x => nodupB (x.2.map MemPlace.codeOf)) = some true := by kernel_rfl
theorem wRun3 (os : Os) : (DataW.laidRun Tryz.prog (laidCall os).memory 8 (Rows.snapshotNobodyRow.laid.map (·.1))).map (fun x => laidRowsB Tryz.prog (laidCall os).memory x.2) = some true := by kernel_rfl
theorem plainL : (Rows.snapshotNobodyRow.laid.all fun x => x.2.handleName?.isNone) = true := by kernel_rfl
theorem wMet (os : Os) : laidMetH Tryz.prog Rows.snapshotNobodyRow.laid (laidCall os).memory := by
  rw [MakeChecks.laidMetH_plain _ _ _ plainL]
  exact laidMet_of_run3 8 (wRun1 os) (wRun2 os) (wRun3 os)

end Go.Proofs.YtalfgifleahabaaGreatDoor.sn
