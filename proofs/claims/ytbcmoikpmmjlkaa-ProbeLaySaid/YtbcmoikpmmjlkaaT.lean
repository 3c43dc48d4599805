/- Facts on the types that the transformers use, printed by wip/tfacts.py. -/
import Derived.Test.YtbcmoikpmmjlkaaF
import Derived.Test.YtbcmoikpmmjlkaaL
import Derived.WalkKit
import Derived.WalkSpells
namespace Go.Proofs.Ytbcmoikpmmjlkaa
open Go Eng
set_option maxRecDepth 100000
@[simp] theorem shape_3 : shapeT Pg 3 = some .one := by kernel_rfl
@[simp] theorem size_3 : sizeT Pg 3 = some 1 := by kernel_rfl
@[simp] theorem zero_3 : zeroT Pg 3 = some (.int .i64 0) := by kernel_rfl
@[simp] theorem shape_4 : shapeT Pg 4 = some .one := by kernel_rfl
@[simp] theorem size_4 : sizeT Pg 4 = some 1 := by kernel_rfl
@[simp] theorem zero_4 : zeroT Pg 4 = some (.bool false) := by kernel_rfl
@[simp] theorem shape_5 : shapeT Pg 5 = some .one := by kernel_rfl
@[simp] theorem size_5 : sizeT Pg 5 = some 1 := by kernel_rfl
@[simp] theorem zero_5 : zeroT Pg 5 = some (.int .u8 0) := by kernel_rfl
@[simp] theorem shape_32 : shapeT Pg 32 = some .one := by kernel_rfl
@[simp] theorem size_32 : sizeT Pg 32 = some 1 := by kernel_rfl
@[simp] theorem zero_32 : zeroT Pg 32 = some (.int .u32 0) := by kernel_rfl
@[simp] theorem shape_34 : shapeT Pg 34 = some (.agg 2) := by kernel_rfl
@[simp] theorem size_34 : sizeT Pg 34 = some 2 := by kernel_rfl
@[simp] theorem zero_34 : zeroT Pg 34 = some (.agg #[.int .u32 0, .int .u32 0]) := by kernel_rfl
@[simp] theorem shape_35 : shapeT Pg 35 = some .one := by kernel_rfl
@[simp] theorem size_35 : sizeT Pg 35 = some 1 := by kernel_rfl
@[simp] theorem zero_35 : zeroT Pg 35 = some (.int .u64 0) := by kernel_rfl
@[simp] theorem shape_36 : shapeT Pg 36 = some .one := by kernel_rfl
@[simp] theorem size_36 : sizeT Pg 36 = some 1 := by kernel_rfl
@[simp] theorem zero_36 : zeroT Pg 36 = some (.slice none 0 0) := by kernel_rfl
@[simp] theorem shape_38 : shapeT Pg 38 = some (.agg 6) := by kernel_rfl
@[simp] theorem size_38 : sizeT Pg 38 = some 6 := by kernel_rfl
@[simp] theorem zero_38 : zeroT Pg 38 = some (.agg #[.int .u64 0, .int .i64 0, .slice none 0 0, .slice none 0 0, .int .u32 0, .int .u32 0]) := by kernel_rfl
@[simp] theorem shape_40 : shapeT Pg 40 = some (.agg 9) := by kernel_rfl
@[simp] theorem size_40 : sizeT Pg 40 = some 9 := by kernel_rfl
@[simp] theorem zero_40 : zeroT Pg 40 = some (.agg #[.int .u32 0, .int .u32 0, .int .i64 0, .int .u64 0, .int .i64 0, .slice none 0 0, .slice none 0 0, .int .u32 0, .int .u32 0]) := by kernel_rfl
@[simp] theorem shape_42 : shapeT Pg 42 = some (.agg 4) := by kernel_rfl
@[simp] theorem size_42 : sizeT Pg 42 = some 4 := by kernel_rfl
@[simp] theorem zero_42 : zeroT Pg 42 = some (.agg #[.int .u32 0, .int .u32 0, .int .u64 0, .int .i64 0]) := by kernel_rfl
@[simp] theorem shape_47 : shapeT Pg 47 = some .one := by kernel_rfl
@[simp] theorem size_47 : sizeT Pg 47 = some 1 := by kernel_rfl
@[simp] theorem zero_47 : zeroT Pg 47 = some (.slice none 0 0) := by kernel_rfl
@[simp] theorem shape_53 : shapeT Pg 53 = some .one := by kernel_rfl
@[simp] theorem size_53 : sizeT Pg 53 = some 1 := by kernel_rfl
@[simp] theorem zero_53 : zeroT Pg 53 = some (.slice none 0 0) := by kernel_rfl
@[simp] theorem shape_55 : shapeT Pg 55 = some (.agg 2) := by kernel_rfl
@[simp] theorem size_55 : sizeT Pg 55 = some 2 := by kernel_rfl
@[simp] theorem zero_55 : zeroT Pg 55 = some (.agg #[.int .u64 0, .int .i64 0]) := by kernel_rfl
@[simp] theorem shape_62 : shapeT Pg 62 = some .one := by kernel_rfl
@[simp] theorem size_62 : sizeT Pg 62 = some 1 := by kernel_rfl
@[simp] theorem zero_62 : zeroT Pg 62 = some (.int .u16 0) := by kernel_rfl
@[simp] theorem shape_63 : shapeT Pg 63 = some .one := by kernel_rfl
@[simp] theorem size_63 : sizeT Pg 63 = some 1 := by kernel_rfl
@[simp] theorem zero_63 : zeroT Pg 63 = some (.slice none 0 0) := by kernel_rfl
@[simp] theorem shape_66 : shapeT Pg 66 = some .one := by kernel_rfl
@[simp] theorem size_66 : sizeT Pg 66 = some 1 := by kernel_rfl
@[simp] theorem zero_66 : zeroT Pg 66 = some (.slice none 0 0) := by kernel_rfl
@[simp] theorem shape_67 : shapeT Pg 67 = some .one := by kernel_rfl
@[simp] theorem size_67 : sizeT Pg 67 = some 1 := by kernel_rfl
@[simp] theorem zero_67 : zeroT Pg 67 = some (.slice none 0 0) := by kernel_rfl
@[simp] theorem shape_68 : shapeT Pg 68 = some .one := by kernel_rfl
@[simp] theorem size_68 : sizeT Pg 68 = some 1 := by kernel_rfl
@[simp] theorem zero_68 : zeroT Pg 68 = some (.slice none 0 0) := by kernel_rfl
@[simp] theorem shape_70 : shapeT Pg 70 = some (.agg 2) := by kernel_rfl
@[simp] theorem size_70 : sizeT Pg 70 = some 2 := by kernel_rfl
@[simp] theorem zero_70 : zeroT Pg 70 = some (.agg #[.slice none 0 0, .slice none 0 0]) := by kernel_rfl
@[simp] theorem shape_75 : shapeT Pg 75 = some (.agg 5) := by kernel_rfl
@[simp] theorem size_75 : sizeT Pg 75 = some 5 := by kernel_rfl
@[simp] theorem zero_75 : zeroT Pg 75 = some (.agg #[.int .i64 0, .int .u32 0, .int .u32 0, .int .u32 0, .int .u32 0]) := by kernel_rfl
@[simp] theorem shape_79 : shapeT Pg 79 = some (.agg 4) := by kernel_rfl
@[simp] theorem size_79 : sizeT Pg 79 = some 4 := by kernel_rfl
@[simp] theorem zero_79 : zeroT Pg 79 = some (.agg #[.slice none 0 0, .int .u64 0, .int .i64 0, .int .i64 0]) := by kernel_rfl
@[simp] theorem shape_89 : shapeT Pg 89 = some .one := by kernel_rfl
@[simp] theorem size_89 : sizeT Pg 89 = some 1 := by kernel_rfl
@[simp] theorem zero_89 : zeroT Pg 89 = some (.pointer none) := by kernel_rfl
@[simp] theorem shape_93 : shapeT Pg 93 = some .one := by kernel_rfl
@[simp] theorem size_93 : sizeT Pg 93 = some 1 := by kernel_rfl
@[simp] theorem zero_93 : zeroT Pg 93 = some (.slice none 0 0) := by kernel_rfl
@[simp] theorem shape_96 : shapeT Pg 96 = some (.agg 4) := by kernel_rfl
@[simp] theorem size_96 : sizeT Pg 96 = some 4 := by kernel_rfl
@[simp] theorem zero_96 : zeroT Pg 96 = some (.agg #[.bool false, .slice none 0 0, .int .u64 0, .int .i64 0]) := by kernel_rfl
@[simp] theorem shape_107 : shapeT Pg 107 = some (.agg 4) := by kernel_rfl
@[simp] theorem size_107 : sizeT Pg 107 = some 4 := by kernel_rfl
@[simp] theorem zero_107 : zeroT Pg 107 = some (.agg #[.slice none 0 0, .int .u64 0, .int .i64 0, .int .i64 0]) := by kernel_rfl
@[simp] theorem shape_109 : shapeT Pg 109 = some .one := by kernel_rfl
@[simp] theorem size_109 : sizeT Pg 109 = some 1 := by kernel_rfl
@[simp] theorem zero_109 : zeroT Pg 109 = some (.slice none 0 0) := by kernel_rfl
@[simp] theorem shape_111 : shapeT Pg 111 = some (.agg 2) := by kernel_rfl
@[simp] theorem size_111 : sizeT Pg 111 = some 2 := by kernel_rfl
@[simp] theorem zero_111 : zeroT Pg 111 = some (.agg #[.slice none 0 0, .slice none 0 0]) := by kernel_rfl
@[simp] theorem shape_116 : shapeT Pg 116 = some (.agg 5) := by kernel_rfl
@[simp] theorem size_116 : sizeT Pg 116 = some 5 := by kernel_rfl
@[simp] theorem zero_116 : zeroT Pg 116 = some (.agg #[.int .u32 0, .int .u32 0, .int .u32 0, .int .u64 0, .int .u64 0]) := by kernel_rfl
@[simp] theorem shape_119 : shapeT Pg 119 = some (.agg 5) := by kernel_rfl
@[simp] theorem size_119 : sizeT Pg 119 = some 5 := by kernel_rfl
@[simp] theorem zero_119 : zeroT Pg 119 = some (.agg #[.int .i64 0, .int .u32 0, .int .u32 0, .int .u32 0, .int .u32 0]) := by kernel_rfl
@[simp] theorem shape_125 : shapeT Pg 125 = some .one := by kernel_rfl
@[simp] theorem size_125 : sizeT Pg 125 = some 1 := by kernel_rfl
@[simp] theorem zero_125 : zeroT Pg 125 = some (.map none) := by kernel_rfl
@[simp] theorem shape_126 : shapeT Pg 126 = some .one := by kernel_rfl
@[simp] theorem size_126 : sizeT Pg 126 = some 1 := by kernel_rfl
@[simp] theorem zero_126 : zeroT Pg 126 = some (.map none) := by kernel_rfl
@[simp] theorem shape_133 : shapeT Pg 133 = some (.agg 9) := by kernel_rfl
@[simp] theorem size_133 : sizeT Pg 133 = some 9 := by kernel_rfl
@[simp] theorem zero_133 : zeroT Pg 133 = some (.agg #[.int .u8 0, .int .u64 0, .int .u64 0, .int .u64 0, .int .u64 0, .int .u64 0, .int .u64 0, .int .u64 0, .int .u64 0]) := by kernel_rfl
@[simp] theorem shape_142 : shapeT Pg 142 = some .one := by kernel_rfl
@[simp] theorem size_142 : sizeT Pg 142 = some 1 := by kernel_rfl
@[simp] theorem zero_142 : zeroT Pg 142 = some (.slice none 0 0) := by kernel_rfl
@[simp] theorem shape_146 : shapeT Pg 146 = some (.agg 4) := by kernel_rfl
@[simp] theorem size_146 : sizeT Pg 146 = some 4 := by kernel_rfl
@[simp] theorem zero_146 : zeroT Pg 146 = some (.agg #[.int .u8 0, .bool false, .int .u16 0, .int .u8 0]) := by kernel_rfl
@[simp] theorem shape_147 : shapeT Pg 147 = some .one := by kernel_rfl
@[simp] theorem size_147 : sizeT Pg 147 = some 1 := by kernel_rfl
@[simp] theorem zero_147 : zeroT Pg 147 = some (.map none) := by kernel_rfl
@[simp] theorem fld_34_0 (b o : Nat) (K : Value → Prop) : pureP Pg (Instr.fieldAt 34 (.pointer (some ⟨b, o, none⟩)) 0) K ↔ K (.pointer (some ⟨b, o, none⟩)) := by simpa using pure_field (P := Pg) (T := 34) (i := 0) (off := 0) (by kernel_rfl) b o K
@[simp] theorem fld_34_1 (b o : Nat) (K : Value → Prop) : pureP Pg (Instr.fieldAt 34 (.pointer (some ⟨b, o, none⟩)) 1) K ↔ K (.pointer (some ⟨b, o + 1, none⟩)) := pure_field (P := Pg) (T := 34) (i := 1) (off := 1) (by kernel_rfl) b o K
@[simp] theorem fld_38_0 (b o : Nat) (K : Value → Prop) : pureP Pg (Instr.fieldAt 38 (.pointer (some ⟨b, o, none⟩)) 0) K ↔ K (.pointer (some ⟨b, o, none⟩)) := by simpa using pure_field (P := Pg) (T := 38) (i := 0) (off := 0) (by kernel_rfl) b o K
@[simp] theorem fld_38_1 (b o : Nat) (K : Value → Prop) : pureP Pg (Instr.fieldAt 38 (.pointer (some ⟨b, o, none⟩)) 1) K ↔ K (.pointer (some ⟨b, o + 1, none⟩)) := pure_field (P := Pg) (T := 38) (i := 1) (off := 1) (by kernel_rfl) b o K
@[simp] theorem fld_38_2 (b o : Nat) (K : Value → Prop) : pureP Pg (Instr.fieldAt 38 (.pointer (some ⟨b, o, none⟩)) 2) K ↔ K (.pointer (some ⟨b, o + 2, none⟩)) := pure_field (P := Pg) (T := 38) (i := 2) (off := 2) (by kernel_rfl) b o K
@[simp] theorem fld_38_3 (b o : Nat) (K : Value → Prop) : pureP Pg (Instr.fieldAt 38 (.pointer (some ⟨b, o, none⟩)) 3) K ↔ K (.pointer (some ⟨b, o + 3, none⟩)) := pure_field (P := Pg) (T := 38) (i := 3) (off := 3) (by kernel_rfl) b o K
@[simp] theorem fld_38_4 (b o : Nat) (K : Value → Prop) : pureP Pg (Instr.fieldAt 38 (.pointer (some ⟨b, o, none⟩)) 4) K ↔ K (.pointer (some ⟨b, o + 4, none⟩)) := pure_field (P := Pg) (T := 38) (i := 4) (off := 4) (by kernel_rfl) b o K
@[simp] theorem fld_40_0 (b o : Nat) (K : Value → Prop) : pureP Pg (Instr.fieldAt 40 (.pointer (some ⟨b, o, none⟩)) 0) K ↔ K (.pointer (some ⟨b, o, none⟩)) := by simpa using pure_field (P := Pg) (T := 40) (i := 0) (off := 0) (by kernel_rfl) b o K
@[simp] theorem fld_40_2 (b o : Nat) (K : Value → Prop) : pureP Pg (Instr.fieldAt 40 (.pointer (some ⟨b, o, none⟩)) 2) K ↔ K (.pointer (some ⟨b, o + 3, none⟩)) := pure_field (P := Pg) (T := 40) (i := 2) (off := 3) (by kernel_rfl) b o K
@[simp] theorem fld_42_0 (b o : Nat) (K : Value → Prop) : pureP Pg (Instr.fieldAt 42 (.pointer (some ⟨b, o, none⟩)) 0) K ↔ K (.pointer (some ⟨b, o, none⟩)) := by simpa using pure_field (P := Pg) (T := 42) (i := 0) (off := 0) (by kernel_rfl) b o K
@[simp] theorem fld_42_1 (b o : Nat) (K : Value → Prop) : pureP Pg (Instr.fieldAt 42 (.pointer (some ⟨b, o, none⟩)) 1) K ↔ K (.pointer (some ⟨b, o + 2, none⟩)) := pure_field (P := Pg) (T := 42) (i := 1) (off := 2) (by kernel_rfl) b o K
@[simp] theorem fld_42_2 (b o : Nat) (K : Value → Prop) : pureP Pg (Instr.fieldAt 42 (.pointer (some ⟨b, o, none⟩)) 2) K ↔ K (.pointer (some ⟨b, o + 3, none⟩)) := pure_field (P := Pg) (T := 42) (i := 2) (off := 3) (by kernel_rfl) b o K
@[simp] theorem fld_55_0 (b o : Nat) (K : Value → Prop) : pureP Pg (Instr.fieldAt 55 (.pointer (some ⟨b, o, none⟩)) 0) K ↔ K (.pointer (some ⟨b, o, none⟩)) := by simpa using pure_field (P := Pg) (T := 55) (i := 0) (off := 0) (by kernel_rfl) b o K
@[simp] theorem fld_55_1 (b o : Nat) (K : Value → Prop) : pureP Pg (Instr.fieldAt 55 (.pointer (some ⟨b, o, none⟩)) 1) K ↔ K (.pointer (some ⟨b, o + 1, none⟩)) := pure_field (P := Pg) (T := 55) (i := 1) (off := 1) (by kernel_rfl) b o K
@[simp] theorem fld_70_0 (b o : Nat) (K : Value → Prop) : pureP Pg (Instr.fieldAt 70 (.pointer (some ⟨b, o, none⟩)) 0) K ↔ K (.pointer (some ⟨b, o, none⟩)) := by simpa using pure_field (P := Pg) (T := 70) (i := 0) (off := 0) (by kernel_rfl) b o K
@[simp] theorem fld_70_1 (b o : Nat) (K : Value → Prop) : pureP Pg (Instr.fieldAt 70 (.pointer (some ⟨b, o, none⟩)) 1) K ↔ K (.pointer (some ⟨b, o + 1, none⟩)) := pure_field (P := Pg) (T := 70) (i := 1) (off := 1) (by kernel_rfl) b o K
@[simp] theorem fld_75_0 (b o : Nat) (K : Value → Prop) : pureP Pg (Instr.fieldAt 75 (.pointer (some ⟨b, o, none⟩)) 0) K ↔ K (.pointer (some ⟨b, o, none⟩)) := by simpa using pure_field (P := Pg) (T := 75) (i := 0) (off := 0) (by kernel_rfl) b o K
@[simp] theorem fld_75_1 (b o : Nat) (K : Value → Prop) : pureP Pg (Instr.fieldAt 75 (.pointer (some ⟨b, o, none⟩)) 1) K ↔ K (.pointer (some ⟨b, o + 1, none⟩)) := pure_field (P := Pg) (T := 75) (i := 1) (off := 1) (by kernel_rfl) b o K
@[simp] theorem fld_75_2 (b o : Nat) (K : Value → Prop) : pureP Pg (Instr.fieldAt 75 (.pointer (some ⟨b, o, none⟩)) 2) K ↔ K (.pointer (some ⟨b, o + 3, none⟩)) := pure_field (P := Pg) (T := 75) (i := 2) (off := 3) (by kernel_rfl) b o K
@[simp] theorem fld_79_0 (b o : Nat) (K : Value → Prop) : pureP Pg (Instr.fieldAt 79 (.pointer (some ⟨b, o, none⟩)) 0) K ↔ K (.pointer (some ⟨b, o, none⟩)) := by simpa using pure_field (P := Pg) (T := 79) (i := 0) (off := 0) (by kernel_rfl) b o K
@[simp] theorem fld_79_1 (b o : Nat) (K : Value → Prop) : pureP Pg (Instr.fieldAt 79 (.pointer (some ⟨b, o, none⟩)) 1) K ↔ K (.pointer (some ⟨b, o + 1, none⟩)) := pure_field (P := Pg) (T := 79) (i := 1) (off := 1) (by kernel_rfl) b o K
@[simp] theorem fld_79_2 (b o : Nat) (K : Value → Prop) : pureP Pg (Instr.fieldAt 79 (.pointer (some ⟨b, o, none⟩)) 2) K ↔ K (.pointer (some ⟨b, o + 2, none⟩)) := pure_field (P := Pg) (T := 79) (i := 2) (off := 2) (by kernel_rfl) b o K
@[simp] theorem fld_79_3 (b o : Nat) (K : Value → Prop) : pureP Pg (Instr.fieldAt 79 (.pointer (some ⟨b, o, none⟩)) 3) K ↔ K (.pointer (some ⟨b, o + 3, none⟩)) := pure_field (P := Pg) (T := 79) (i := 3) (off := 3) (by kernel_rfl) b o K
@[simp] theorem fld_96_0 (b o : Nat) (K : Value → Prop) : pureP Pg (Instr.fieldAt 96 (.pointer (some ⟨b, o, none⟩)) 0) K ↔ K (.pointer (some ⟨b, o, none⟩)) := by simpa using pure_field (P := Pg) (T := 96) (i := 0) (off := 0) (by kernel_rfl) b o K
@[simp] theorem fld_96_1 (b o : Nat) (K : Value → Prop) : pureP Pg (Instr.fieldAt 96 (.pointer (some ⟨b, o, none⟩)) 1) K ↔ K (.pointer (some ⟨b, o + 1, none⟩)) := pure_field (P := Pg) (T := 96) (i := 1) (off := 1) (by kernel_rfl) b o K
@[simp] theorem fld_96_2 (b o : Nat) (K : Value → Prop) : pureP Pg (Instr.fieldAt 96 (.pointer (some ⟨b, o, none⟩)) 2) K ↔ K (.pointer (some ⟨b, o + 2, none⟩)) := pure_field (P := Pg) (T := 96) (i := 2) (off := 2) (by kernel_rfl) b o K
@[simp] theorem fld_96_3 (b o : Nat) (K : Value → Prop) : pureP Pg (Instr.fieldAt 96 (.pointer (some ⟨b, o, none⟩)) 3) K ↔ K (.pointer (some ⟨b, o + 3, none⟩)) := pure_field (P := Pg) (T := 96) (i := 3) (off := 3) (by kernel_rfl) b o K
@[simp] theorem fld_103_0 (b o : Nat) (K : Value → Prop) : pureP Pg (Instr.fieldAt 103 (.pointer (some ⟨b, o, none⟩)) 0) K ↔ K (.pointer (some ⟨b, o, none⟩)) := by simpa using pure_field (P := Pg) (T := 103) (i := 0) (off := 0) (by kernel_rfl) b o K
@[simp] theorem fld_103_1 (b o : Nat) (K : Value → Prop) : pureP Pg (Instr.fieldAt 103 (.pointer (some ⟨b, o, none⟩)) 1) K ↔ K (.pointer (some ⟨b, o + 1, none⟩)) := pure_field (P := Pg) (T := 103) (i := 1) (off := 1) (by kernel_rfl) b o K
@[simp] theorem fld_103_2 (b o : Nat) (K : Value → Prop) : pureP Pg (Instr.fieldAt 103 (.pointer (some ⟨b, o, none⟩)) 2) K ↔ K (.pointer (some ⟨b, o + 2, none⟩)) := pure_field (P := Pg) (T := 103) (i := 2) (off := 2) (by kernel_rfl) b o K
@[simp] theorem fld_107_0 (b o : Nat) (K : Value → Prop) : pureP Pg (Instr.fieldAt 107 (.pointer (some ⟨b, o, none⟩)) 0) K ↔ K (.pointer (some ⟨b, o, none⟩)) := by simpa using pure_field (P := Pg) (T := 107) (i := 0) (off := 0) (by kernel_rfl) b o K
@[simp] theorem fld_107_1 (b o : Nat) (K : Value → Prop) : pureP Pg (Instr.fieldAt 107 (.pointer (some ⟨b, o, none⟩)) 1) K ↔ K (.pointer (some ⟨b, o + 1, none⟩)) := pure_field (P := Pg) (T := 107) (i := 1) (off := 1) (by kernel_rfl) b o K
@[simp] theorem fld_107_2 (b o : Nat) (K : Value → Prop) : pureP Pg (Instr.fieldAt 107 (.pointer (some ⟨b, o, none⟩)) 2) K ↔ K (.pointer (some ⟨b, o + 2, none⟩)) := pure_field (P := Pg) (T := 107) (i := 2) (off := 2) (by kernel_rfl) b o K
@[simp] theorem fld_107_3 (b o : Nat) (K : Value → Prop) : pureP Pg (Instr.fieldAt 107 (.pointer (some ⟨b, o, none⟩)) 3) K ↔ K (.pointer (some ⟨b, o + 3, none⟩)) := pure_field (P := Pg) (T := 107) (i := 3) (off := 3) (by kernel_rfl) b o K
@[simp] theorem fld_111_0 (b o : Nat) (K : Value → Prop) : pureP Pg (Instr.fieldAt 111 (.pointer (some ⟨b, o, none⟩)) 0) K ↔ K (.pointer (some ⟨b, o, none⟩)) := by simpa using pure_field (P := Pg) (T := 111) (i := 0) (off := 0) (by kernel_rfl) b o K
@[simp] theorem fld_111_1 (b o : Nat) (K : Value → Prop) : pureP Pg (Instr.fieldAt 111 (.pointer (some ⟨b, o, none⟩)) 1) K ↔ K (.pointer (some ⟨b, o + 1, none⟩)) := pure_field (P := Pg) (T := 111) (i := 1) (off := 1) (by kernel_rfl) b o K
@[simp] theorem fld_116_0 (b o : Nat) (K : Value → Prop) : pureP Pg (Instr.fieldAt 116 (.pointer (some ⟨b, o, none⟩)) 0) K ↔ K (.pointer (some ⟨b, o, none⟩)) := by simpa using pure_field (P := Pg) (T := 116) (i := 0) (off := 0) (by kernel_rfl) b o K
@[simp] theorem fld_116_1 (b o : Nat) (K : Value → Prop) : pureP Pg (Instr.fieldAt 116 (.pointer (some ⟨b, o, none⟩)) 1) K ↔ K (.pointer (some ⟨b, o + 1, none⟩)) := pure_field (P := Pg) (T := 116) (i := 1) (off := 1) (by kernel_rfl) b o K
@[simp] theorem fld_116_2 (b o : Nat) (K : Value → Prop) : pureP Pg (Instr.fieldAt 116 (.pointer (some ⟨b, o, none⟩)) 2) K ↔ K (.pointer (some ⟨b, o + 2, none⟩)) := pure_field (P := Pg) (T := 116) (i := 2) (off := 2) (by kernel_rfl) b o K
@[simp] theorem fld_116_4 (b o : Nat) (K : Value → Prop) : pureP Pg (Instr.fieldAt 116 (.pointer (some ⟨b, o, none⟩)) 4) K ↔ K (.pointer (some ⟨b, o + 4, none⟩)) := pure_field (P := Pg) (T := 116) (i := 4) (off := 4) (by kernel_rfl) b o K
@[simp] theorem fld_119_0 (b o : Nat) (K : Value → Prop) : pureP Pg (Instr.fieldAt 119 (.pointer (some ⟨b, o, none⟩)) 0) K ↔ K (.pointer (some ⟨b, o, none⟩)) := by simpa using pure_field (P := Pg) (T := 119) (i := 0) (off := 0) (by kernel_rfl) b o K
@[simp] theorem fld_119_1 (b o : Nat) (K : Value → Prop) : pureP Pg (Instr.fieldAt 119 (.pointer (some ⟨b, o, none⟩)) 1) K ↔ K (.pointer (some ⟨b, o + 1, none⟩)) := pure_field (P := Pg) (T := 119) (i := 1) (off := 1) (by kernel_rfl) b o K
@[simp] theorem fld_123_0 (b o : Nat) (K : Value → Prop) : pureP Pg (Instr.fieldAt 123 (.pointer (some ⟨b, o, none⟩)) 0) K ↔ K (.pointer (some ⟨b, o, none⟩)) := by simpa using pure_field (P := Pg) (T := 123) (i := 0) (off := 0) (by kernel_rfl) b o K
@[simp] theorem fld_123_1 (b o : Nat) (K : Value → Prop) : pureP Pg (Instr.fieldAt 123 (.pointer (some ⟨b, o, none⟩)) 1) K ↔ K (.pointer (some ⟨b, o + 1, none⟩)) := pure_field (P := Pg) (T := 123) (i := 1) (off := 1) (by kernel_rfl) b o K
@[simp] theorem fld_123_2 (b o : Nat) (K : Value → Prop) : pureP Pg (Instr.fieldAt 123 (.pointer (some ⟨b, o, none⟩)) 2) K ↔ K (.pointer (some ⟨b, o + 2, none⟩)) := pure_field (P := Pg) (T := 123) (i := 2) (off := 2) (by kernel_rfl) b o K
@[simp] theorem fld_128_0 (b o : Nat) (K : Value → Prop) : pureP Pg (Instr.fieldAt 128 (.pointer (some ⟨b, o, none⟩)) 0) K ↔ K (.pointer (some ⟨b, o, none⟩)) := by simpa using pure_field (P := Pg) (T := 128) (i := 0) (off := 0) (by kernel_rfl) b o K
@[simp] theorem fld_128_1 (b o : Nat) (K : Value → Prop) : pureP Pg (Instr.fieldAt 128 (.pointer (some ⟨b, o, none⟩)) 1) K ↔ K (.pointer (some ⟨b, o + 1, none⟩)) := pure_field (P := Pg) (T := 128) (i := 1) (off := 1) (by kernel_rfl) b o K
@[simp] theorem fld_128_2 (b o : Nat) (K : Value → Prop) : pureP Pg (Instr.fieldAt 128 (.pointer (some ⟨b, o, none⟩)) 2) K ↔ K (.pointer (some ⟨b, o + 2, none⟩)) := pure_field (P := Pg) (T := 128) (i := 2) (off := 2) (by kernel_rfl) b o K
@[simp] theorem fld_128_3 (b o : Nat) (K : Value → Prop) : pureP Pg (Instr.fieldAt 128 (.pointer (some ⟨b, o, none⟩)) 3) K ↔ K (.pointer (some ⟨b, o + 3, none⟩)) := pure_field (P := Pg) (T := 128) (i := 3) (off := 3) (by kernel_rfl) b o K
@[simp] theorem fld_133_0 (b o : Nat) (K : Value → Prop) : pureP Pg (Instr.fieldAt 133 (.pointer (some ⟨b, o, none⟩)) 0) K ↔ K (.pointer (some ⟨b, o, none⟩)) := by simpa using pure_field (P := Pg) (T := 133) (i := 0) (off := 0) (by kernel_rfl) b o K
@[simp] theorem fld_133_1 (b o : Nat) (K : Value → Prop) : pureP Pg (Instr.fieldAt 133 (.pointer (some ⟨b, o, none⟩)) 1) K ↔ K (.pointer (some ⟨b, o + 1, none⟩)) := pure_field (P := Pg) (T := 133) (i := 1) (off := 1) (by kernel_rfl) b o K
@[simp] theorem fld_146_0 (b o : Nat) (K : Value → Prop) : pureP Pg (Instr.fieldAt 146 (.pointer (some ⟨b, o, none⟩)) 0) K ↔ K (.pointer (some ⟨b, o, none⟩)) := by simpa using pure_field (P := Pg) (T := 146) (i := 0) (off := 0) (by kernel_rfl) b o K
@[simp] theorem fld_146_1 (b o : Nat) (K : Value → Prop) : pureP Pg (Instr.fieldAt 146 (.pointer (some ⟨b, o, none⟩)) 1) K ↔ K (.pointer (some ⟨b, o + 1, none⟩)) := pure_field (P := Pg) (T := 146) (i := 1) (off := 1) (by kernel_rfl) b o K
@[simp] theorem fld_146_2 (b o : Nat) (K : Value → Prop) : pureP Pg (Instr.fieldAt 146 (.pointer (some ⟨b, o, none⟩)) 2) K ↔ K (.pointer (some ⟨b, o + 2, none⟩)) := pure_field (P := Pg) (T := 146) (i := 2) (off := 2) (by kernel_rfl) b o K
@[simp] theorem fld_146_3 (b o : Nat) (K : Value → Prop) : pureP Pg (Instr.fieldAt 146 (.pointer (some ⟨b, o, none⟩)) 3) K ↔ K (.pointer (some ⟨b, o + 3, none⟩)) := pure_field (P := Pg) (T := 146) (i := 3) (off := 3) (by kernel_rfl) b o K
@[simp] theorem fld_153_0 (b o : Nat) (K : Value → Prop) : pureP Pg (Instr.fieldAt 153 (.pointer (some ⟨b, o, none⟩)) 0) K ↔ K (.pointer (some ⟨b, o, none⟩)) := by simpa using pure_field (P := Pg) (T := 153) (i := 0) (off := 0) (by kernel_rfl) b o K
@[simp] theorem fld_153_1 (b o : Nat) (K : Value → Prop) : pureP Pg (Instr.fieldAt 153 (.pointer (some ⟨b, o, none⟩)) 1) K ↔ K (.pointer (some ⟨b, o + 1, none⟩)) := pure_field (P := Pg) (T := 153) (i := 1) (off := 1) (by kernel_rfl) b o K
@[simp] theorem fld_153_2 (b o : Nat) (K : Value → Prop) : pureP Pg (Instr.fieldAt 153 (.pointer (some ⟨b, o, none⟩)) 2) K ↔ K (.pointer (some ⟨b, o + 2, none⟩)) := pure_field (P := Pg) (T := 153) (i := 2) (off := 2) (by kernel_rfl) b o K
@[simp] theorem idx_22 (b o n c : Nat) (k : IntKind) (i : Int) (K : Value → Prop) (h : 0 ≤ i ∧ i < n) : pureP Pg (Instr.indexAt 22 (.slice (some ⟨b, o, none⟩) n c) (.int k i)) K ↔ K (.pointer (some ⟨b, o + i.toNat * 3, none⟩)) := by simpa using pure_index (P := Pg) (T := 22) (sz := 3) (by kernel_rfl) b o n c k i K h
@[simp] theorem idx_23 (b o n c : Nat) (k : IntKind) (i : Int) (K : Value → Prop) (h : 0 ≤ i ∧ i < n) : pureP Pg (Instr.indexAt 23 (.slice (some ⟨b, o, none⟩) n c) (.int k i)) K ↔ K (.pointer (some ⟨b, o + i.toNat * 9, none⟩)) := by simpa using pure_index (P := Pg) (T := 23) (sz := 9) (by kernel_rfl) b o n c k i K h
@[simp] theorem idx_36 (b o n c : Nat) (k : IntKind) (i : Int) (K : Value → Prop) (h : 0 ≤ i ∧ i < n) : pureP Pg (Instr.indexAt 36 (.slice (some ⟨b, o, none⟩) n c) (.int k i)) K ↔ K (.pointer (some ⟨b, o + i.toNat, none⟩)) := by simpa using pure_index (P := Pg) (T := 36) (sz := 1) (by kernel_rfl) b o n c k i K h
@[simp] theorem idx_47 (b o n c : Nat) (k : IntKind) (i : Int) (K : Value → Prop) (h : 0 ≤ i ∧ i < n) : pureP Pg (Instr.indexAt 47 (.slice (some ⟨b, o, none⟩) n c) (.int k i)) K ↔ K (.pointer (some ⟨b, o + i.toNat * 2, none⟩)) := by simpa using pure_index (P := Pg) (T := 47) (sz := 2) (by kernel_rfl) b o n c k i K h
@[simp] theorem idx_53 (b o n c : Nat) (k : IntKind) (i : Int) (K : Value → Prop) (h : 0 ≤ i ∧ i < n) : pureP Pg (Instr.indexAt 53 (.slice (some ⟨b, o, none⟩) n c) (.int k i)) K ↔ K (.pointer (some ⟨b, o + i.toNat * 2, none⟩)) := by simpa using pure_index (P := Pg) (T := 53) (sz := 2) (by kernel_rfl) b o n c k i K h
@[simp] theorem idx_61 (b o n c : Nat) (k : IntKind) (i : Int) (K : Value → Prop) (h : 0 ≤ i ∧ i < n) : pureP Pg (Instr.indexAt 61 (.slice (some ⟨b, o, none⟩) n c) (.int k i)) K ↔ K (.pointer (some ⟨b, o + i.toNat * 4, none⟩)) := by simpa using pure_index (P := Pg) (T := 61) (sz := 4) (by kernel_rfl) b o n c k i K h
@[simp] theorem idx_63 (b o n c : Nat) (k : IntKind) (i : Int) (K : Value → Prop) (h : 0 ≤ i ∧ i < n) : pureP Pg (Instr.indexAt 63 (.slice (some ⟨b, o, none⟩) n c) (.int k i)) K ↔ K (.pointer (some ⟨b, o + i.toNat * 4, none⟩)) := by simpa using pure_index (P := Pg) (T := 63) (sz := 4) (by kernel_rfl) b o n c k i K h
@[simp] theorem idx_66 (b o n c : Nat) (k : IntKind) (i : Int) (K : Value → Prop) (h : 0 ≤ i ∧ i < n) : pureP Pg (Instr.indexAt 66 (.slice (some ⟨b, o, none⟩) n c) (.int k i)) K ↔ K (.pointer (some ⟨b, o + i.toNat, none⟩)) := by simpa using pure_index (P := Pg) (T := 66) (sz := 1) (by kernel_rfl) b o n c k i K h
@[simp] theorem idx_67 (b o n c : Nat) (k : IntKind) (i : Int) (K : Value → Prop) (h : 0 ≤ i ∧ i < n) : pureP Pg (Instr.indexAt 67 (.slice (some ⟨b, o, none⟩) n c) (.int k i)) K ↔ K (.pointer (some ⟨b, o + i.toNat * 5, none⟩)) := by simpa using pure_index (P := Pg) (T := 67) (sz := 5) (by kernel_rfl) b o n c k i K h
@[simp] theorem idx_68 (b o n c : Nat) (k : IntKind) (i : Int) (K : Value → Prop) (h : 0 ≤ i ∧ i < n) : pureP Pg (Instr.indexAt 68 (.slice (some ⟨b, o, none⟩) n c) (.int k i)) K ↔ K (.pointer (some ⟨b, o + i.toNat * 5, none⟩)) := by simpa using pure_index (P := Pg) (T := 68) (sz := 5) (by kernel_rfl) b o n c k i K h
@[simp] theorem idx_73 (b o n c : Nat) (k : IntKind) (i : Int) (K : Value → Prop) (h : 0 ≤ i ∧ i < n) : pureP Pg (Instr.indexAt 73 (.slice (some ⟨b, o, none⟩) n c) (.int k i)) K ↔ K (.pointer (some ⟨b, o + i.toNat, none⟩)) := by simpa using pure_index (P := Pg) (T := 73) (sz := 1) (by kernel_rfl) b o n c k i K h
@[simp] theorem idx_88 (b o n c : Nat) (k : IntKind) (i : Int) (K : Value → Prop) (h : 0 ≤ i ∧ i < n) : pureP Pg (Instr.indexAt 88 (.slice (some ⟨b, o, none⟩) n c) (.int k i)) K ↔ K (.pointer (some ⟨b, o + i.toNat, none⟩)) := by simpa using pure_index (P := Pg) (T := 88) (sz := 1) (by kernel_rfl) b o n c k i K h
@[simp] theorem idx_93 (b o n c : Nat) (k : IntKind) (i : Int) (K : Value → Prop) (h : 0 ≤ i ∧ i < n) : pureP Pg (Instr.indexAt 93 (.slice (some ⟨b, o, none⟩) n c) (.int k i)) K ↔ K (.pointer (some ⟨b, o + i.toNat * 4, none⟩)) := by simpa using pure_index (P := Pg) (T := 93) (sz := 4) (by kernel_rfl) b o n c k i K h
@[simp] theorem idx_105 (b o n c : Nat) (k : IntKind) (i : Int) (K : Value → Prop) (h : 0 ≤ i ∧ i < n) : pureP Pg (Instr.indexAt 105 (.slice (some ⟨b, o, none⟩) n c) (.int k i)) K ↔ K (.pointer (some ⟨b, o + i.toNat * 4, none⟩)) := by simpa using pure_index (P := Pg) (T := 105) (sz := 4) (by kernel_rfl) b o n c k i K h
@[simp] theorem idx_109 (b o n c : Nat) (k : IntKind) (i : Int) (K : Value → Prop) (h : 0 ≤ i ∧ i < n) : pureP Pg (Instr.indexAt 109 (.slice (some ⟨b, o, none⟩) n c) (.int k i)) K ↔ K (.pointer (some ⟨b, o + i.toNat * 5, none⟩)) := by simpa using pure_index (P := Pg) (T := 109) (sz := 5) (by kernel_rfl) b o n c k i K h
@[simp] theorem idx_131 (b o : Nat) (k : IntKind) (i : Int) (K : Value → Prop) (h : 0 ≤ i ∧ i < (8 : Nat)) : pureP Pg (Instr.indexAt 131 (.pointer (some ⟨b, o, none⟩)) (.int k i)) K ↔ K (.pointer (some ⟨b, o + i.toNat, none⟩)) := by simpa using pure_indexArr (P := Pg) (T := 131) (n := 8) (sz := 1) (by kernel_rfl) b o k i K h
@[simp] theorem idx_142 (b o n c : Nat) (k : IntKind) (i : Int) (K : Value → Prop) (h : 0 ≤ i ∧ i < n) : pureP Pg (Instr.indexAt 142 (.slice (some ⟨b, o, none⟩) n c) (.int k i)) K ↔ K (.pointer (some ⟨b, o + i.toNat, none⟩)) := by simpa using pure_index (P := Pg) (T := 142) (sz := 1) (by kernel_rfl) b o n c k i K h
@[simp] theorem eql_27 (r : Option Addr) (K : Value → Prop) : pureP Pg (binS .eql 27 (.pointer r) (.pointer none)) K ↔ K (.bool r.isNone) := pure_eqP Try.underlying27 r K
@[simp] theorem eql_34 (a_0 : Int) (a_1 : Int) (b_0 : Int) (b_1 : Int) (K : Value → Prop) : pureP Pg (binS .eql 34 (.agg #[.int .u32 a_0, .int .u32 a_1]) (.agg #[.int .u32 b_0, .int .u32 b_1])) K ↔ K (.bool (decide (a_0 = b_0 ∧ a_1 = b_1))) := pureP_of fun w => by
  show (binOp .eql 34 (.agg #[.int .u32 a_0, .int .u32 a_1]) (.agg #[.int .u32 b_0, .int .u32 b_1])).run Pg w = _
  simp [go_sem]
  repeat (first | (split <;> simp_all <;> done) | split)
  all_goals simp_all
@[simp] theorem eql_36 (a : Option Addr) (n c : Nat) (K : Value → Prop) : pureP Pg (binS .eql 36 (.slice a n c) (.slice none 0 0)) K ↔ K (.bool a.isNone) := pure_eqS Try.underlying36 a n c K
@[simp] theorem eql_47 (a : Option Addr) (n c : Nat) (K : Value → Prop) : pureP Pg (binS .eql 47 (.slice a n c) (.slice none 0 0)) K ↔ K (.bool a.isNone) := pure_eqS Try.underlying47 a n c K
@[simp] theorem eql_66 (a : Option Addr) (n c : Nat) (K : Value → Prop) : pureP Pg (binS .eql 66 (.slice a n c) (.slice none 0 0)) K ↔ K (.bool a.isNone) := pure_eqS Try.underlying66 a n c K
@[simp] theorem eql_89 (r : Option Addr) (K : Value → Prop) : pureP Pg (binS .eql 89 (.pointer r) (.pointer none)) K ↔ K (.bool r.isNone) := pure_eqP Try.underlying89 r K
@[simp] theorem eql_93 (a : Option Addr) (n c : Nat) (K : Value → Prop) : pureP Pg (binS .eql 93 (.slice a n c) (.slice none 0 0)) K ↔ K (.bool a.isNone) := pure_eqS Try.underlying93 a n c K
@[simp] theorem eql_125 (r : Option Nat) (K : Value → Prop) : pureP Pg (binS .eql 125 (.map r) (.map none)) K ↔ K (.bool r.isNone) := pure_eqM Try.underlying125 r K
@[simp] theorem neq_4 (a b : Bool) (K : Value → Prop) : pureP Pg (binS .neq 4 (.bool a) (.bool b)) K ↔ K (.bool (a != b)) := pure_neB Try.underlying4 a b K
@[simp] theorem neq_34 (a_0 : Int) (a_1 : Int) (b_0 : Int) (b_1 : Int) (K : Value → Prop) : pureP Pg (binS .neq 34 (.agg #[.int .u32 a_0, .int .u32 a_1]) (.agg #[.int .u32 b_0, .int .u32 b_1])) K ↔ K (.bool (!decide (a_0 = b_0 ∧ a_1 = b_1))) := pureP_of fun w => by
  show (binOp .neq 34 (.agg #[.int .u32 a_0, .int .u32 a_1]) (.agg #[.int .u32 b_0, .int .u32 b_1])).run Pg w = _
  simp [go_sem]
  repeat (first | (split <;> simp_all <;> done) | split)
  all_goals simp_all
@[simp] theorem neq_42 (a_0_0 : Int) (a_0_1 : Int) (a_1 : Int) (a_2 : Int) (b_0_0 : Int) (b_0_1 : Int) (b_1 : Int) (b_2 : Int) (K : Value → Prop) : pureP Pg (binS .neq 42 (.agg #[.int .u32 a_0_0, .int .u32 a_0_1, .int .u64 a_1, .int .i64 a_2]) (.agg #[.int .u32 b_0_0, .int .u32 b_0_1, .int .u64 b_1, .int .i64 b_2])) K ↔ K (.bool (!decide (a_0_0 = b_0_0 ∧ a_0_1 = b_0_1 ∧ a_1 = b_1 ∧ a_2 = b_2))) := pureP_of fun w => by
  show (binOp .neq 42 (.agg #[.int .u32 a_0_0, .int .u32 a_0_1, .int .u64 a_1, .int .i64 a_2]) (.agg #[.int .u32 b_0_0, .int .u32 b_0_1, .int .u64 b_1, .int .i64 b_2])).run Pg w = _
  simp [go_sem]
  repeat (first | (split <;> simp_all <;> done) | split)
  all_goals simp_all
@[simp] theorem neq_75 (a_0 : Int) (a_1_0 : Int) (a_1_1 : Int) (a_2_0 : Int) (a_2_1 : Int) (b_0 : Int) (b_1_0 : Int) (b_1_1 : Int) (b_2_0 : Int) (b_2_1 : Int) (K : Value → Prop) : pureP Pg (binS .neq 75 (.agg #[.int .i64 a_0, .int .u32 a_1_0, .int .u32 a_1_1, .int .u32 a_2_0, .int .u32 a_2_1]) (.agg #[.int .i64 b_0, .int .u32 b_1_0, .int .u32 b_1_1, .int .u32 b_2_0, .int .u32 b_2_1])) K ↔ K (.bool (!decide (a_0 = b_0 ∧ a_1_0 = b_1_0 ∧ a_1_1 = b_1_1 ∧ a_2_0 = b_2_0 ∧ a_2_1 = b_2_1))) := pureP_of fun w => by
  show (binOp .neq 75 (.agg #[.int .i64 a_0, .int .u32 a_1_0, .int .u32 a_1_1, .int .u32 a_2_0, .int .u32 a_2_1]) (.agg #[.int .i64 b_0, .int .u32 b_1_0, .int .u32 b_1_1, .int .u32 b_2_0, .int .u32 b_2_1])).run Pg w = _
  simp [go_sem]
  repeat (first | (split <;> simp_all <;> done) | split)
  all_goals simp_all
@[simp] theorem neq_116 (a_0 : Int) (a_1 : Int) (a_2 : Int) (a_3 : Int) (a_4 : Int) (b_0 : Int) (b_1 : Int) (b_2 : Int) (b_3 : Int) (b_4 : Int) (K : Value → Prop) : pureP Pg (binS .neq 116 (.agg #[.int .u32 a_0, .int .u32 a_1, .int .u32 a_2, .int .u64 a_3, .int .u64 a_4]) (.agg #[.int .u32 b_0, .int .u32 b_1, .int .u32 b_2, .int .u64 b_3, .int .u64 b_4])) K ↔ K (.bool (!decide (a_0 = b_0 ∧ a_1 = b_1 ∧ a_2 = b_2 ∧ a_3 = b_3 ∧ a_4 = b_4))) := pureP_of fun w => by
  show (binOp .neq 116 (.agg #[.int .u32 a_0, .int .u32 a_1, .int .u32 a_2, .int .u64 a_3, .int .u64 a_4]) (.agg #[.int .u32 b_0, .int .u32 b_1, .int .u32 b_2, .int .u64 b_3, .int .u64 b_4])).run Pg w = _
  simp [go_sem]
  repeat (first | (split <;> simp_all <;> done) | split)
  all_goals simp_all
@[simp] theorem neq_119 (a_0 : Int) (a_1_0 : Int) (a_1_1 : Int) (a_2_0 : Int) (a_2_1 : Int) (b_0 : Int) (b_1_0 : Int) (b_1_1 : Int) (b_2_0 : Int) (b_2_1 : Int) (K : Value → Prop) : pureP Pg (binS .neq 119 (.agg #[.int .i64 a_0, .int .u32 a_1_0, .int .u32 a_1_1, .int .u32 a_2_0, .int .u32 a_2_1]) (.agg #[.int .i64 b_0, .int .u32 b_1_0, .int .u32 b_1_1, .int .u32 b_2_0, .int .u32 b_2_1])) K ↔ K (.bool (!decide (a_0 = b_0 ∧ a_1_0 = b_1_0 ∧ a_1_1 = b_1_1 ∧ a_2_0 = b_2_0 ∧ a_2_1 = b_2_1))) := pureP_of fun w => by
  show (binOp .neq 119 (.agg #[.int .i64 a_0, .int .u32 a_1_0, .int .u32 a_1_1, .int .u32 a_2_0, .int .u32 a_2_1]) (.agg #[.int .i64 b_0, .int .u32 b_1_0, .int .u32 b_1_1, .int .u32 b_2_0, .int .u32 b_2_1])).run Pg w = _
  simp [go_sem]
  repeat (first | (split <;> simp_all <;> done) | split)
  all_goals simp_all
@[simp] theorem len_22 (ty : TypeId) (a : Option Addr) (n c : Nat) (K : Value → Prop) : pureP Pg (Builtin.len_ #[22] ty #[.slice a n c]) K ↔ K (.int .i64 n) := pure_lenS Try.underlying22 ty a n c K
@[simp] theorem len_23 (ty : TypeId) (a : Option Addr) (n c : Nat) (K : Value → Prop) : pureP Pg (Builtin.len_ #[23] ty #[.slice a n c]) K ↔ K (.int .i64 n) := pure_lenS Try.underlying23 ty a n c K
@[simp] theorem len_36 (ty : TypeId) (a : Option Addr) (n c : Nat) (K : Value → Prop) : pureP Pg (Builtin.len_ #[36] ty #[.slice a n c]) K ↔ K (.int .i64 n) := pure_lenS Try.underlying36 ty a n c K
@[simp] theorem len_47 (ty : TypeId) (a : Option Addr) (n c : Nat) (K : Value → Prop) : pureP Pg (Builtin.len_ #[47] ty #[.slice a n c]) K ↔ K (.int .i64 n) := pure_lenS Try.underlying47 ty a n c K
@[simp] theorem len_53 (ty : TypeId) (a : Option Addr) (n c : Nat) (K : Value → Prop) : pureP Pg (Builtin.len_ #[53] ty #[.slice a n c]) K ↔ K (.int .i64 n) := pure_lenS Try.underlying53 ty a n c K
@[simp] theorem len_61 (ty : TypeId) (a : Option Addr) (n c : Nat) (K : Value → Prop) : pureP Pg (Builtin.len_ #[61] ty #[.slice a n c]) K ↔ K (.int .i64 n) := pure_lenS Try.underlying61 ty a n c K
@[simp] theorem len_63 (ty : TypeId) (a : Option Addr) (n c : Nat) (K : Value → Prop) : pureP Pg (Builtin.len_ #[63] ty #[.slice a n c]) K ↔ K (.int .i64 n) := pure_lenS Try.underlying63 ty a n c K
@[simp] theorem len_66 (ty : TypeId) (a : Option Addr) (n c : Nat) (K : Value → Prop) : pureP Pg (Builtin.len_ #[66] ty #[.slice a n c]) K ↔ K (.int .i64 n) := pure_lenS Try.underlying66 ty a n c K
@[simp] theorem len_67 (ty : TypeId) (a : Option Addr) (n c : Nat) (K : Value → Prop) : pureP Pg (Builtin.len_ #[67] ty #[.slice a n c]) K ↔ K (.int .i64 n) := pure_lenS Try.underlying67 ty a n c K
@[simp] theorem len_68 (ty : TypeId) (a : Option Addr) (n c : Nat) (K : Value → Prop) : pureP Pg (Builtin.len_ #[68] ty #[.slice a n c]) K ↔ K (.int .i64 n) := pure_lenS Try.underlying68 ty a n c K
@[simp] theorem len_73 (ty : TypeId) (a : Option Addr) (n c : Nat) (K : Value → Prop) : pureP Pg (Builtin.len_ #[73] ty #[.slice a n c]) K ↔ K (.int .i64 n) := pure_lenS Try.underlying73 ty a n c K
@[simp] theorem len_88 (ty : TypeId) (a : Option Addr) (n c : Nat) (K : Value → Prop) : pureP Pg (Builtin.len_ #[88] ty #[.slice a n c]) K ↔ K (.int .i64 n) := pure_lenS Try.underlying88 ty a n c K
@[simp] theorem len_93 (ty : TypeId) (a : Option Addr) (n c : Nat) (K : Value → Prop) : pureP Pg (Builtin.len_ #[93] ty #[.slice a n c]) K ↔ K (.int .i64 n) := pure_lenS Try.underlying93 ty a n c K
@[simp] theorem len_105 (ty : TypeId) (a : Option Addr) (n c : Nat) (K : Value → Prop) : pureP Pg (Builtin.len_ #[105] ty #[.slice a n c]) K ↔ K (.int .i64 n) := pure_lenS Try.underlying105 ty a n c K
@[simp] theorem len_109 (ty : TypeId) (a : Option Addr) (n c : Nat) (K : Value → Prop) : pureP Pg (Builtin.len_ #[109] ty #[.slice a n c]) K ↔ K (.int .i64 n) := pure_lenS Try.underlying109 ty a n c K
@[simp] theorem len_142 (ty : TypeId) (a : Option Addr) (n c : Nat) (K : Value → Prop) : pureP Pg (Builtin.len_ #[142] ty #[.slice a n c]) K ↔ K (.int .i64 n) := pure_lenS Try.underlying142 ty a n c K
@[simp] theorem conv_3_5 (j : IntKind) (n : Int) (K : Value → Prop) : pureP Pg (convert 3 5 (.int j n)) K ↔ K (.int .u8 (IntKind.u8.wrap n)) := pure_conv ⟨_, Try.underlying3⟩ Try.underlying5 j n K
@[simp] theorem conv_3_32 (j : IntKind) (n : Int) (K : Value → Prop) : pureP Pg (convert 3 32 (.int j n)) K ↔ K (.int .u32 (IntKind.u32.wrap n)) := pure_conv ⟨_, Try.underlying3⟩ Try.underlying32 j n K
@[simp] theorem conv_3_35 (j : IntKind) (n : Int) (K : Value → Prop) : pureP Pg (convert 3 35 (.int j n)) K ↔ K (.int .u64 (IntKind.u64.wrap n)) := pure_conv ⟨_, Try.underlying3⟩ Try.underlying35 j n K
@[simp] theorem conv_3_161 (j : IntKind) (n : Int) (K : Value → Prop) : pureP Pg (convert 3 161 (.int j n)) K ↔ K (.int .u64 (IntKind.u64.wrap n)) := pure_conv ⟨_, Try.underlying3⟩ Try.underlying161 j n K
@[simp] theorem conv_5_3 (j : IntKind) (n : Int) (K : Value → Prop) : pureP Pg (convert 5 3 (.int j n)) K ↔ K (.int .i64 (IntKind.i64.wrap n)) := pure_conv ⟨_, Try.underlying5⟩ Try.underlying3 j n K
@[simp] theorem conv_5_35 (j : IntKind) (n : Int) (K : Value → Prop) : pureP Pg (convert 5 35 (.int j n)) K ↔ K (.int .u64 (IntKind.u64.wrap n)) := pure_conv ⟨_, Try.underlying5⟩ Try.underlying35 j n K
@[simp] theorem conv_32_3 (j : IntKind) (n : Int) (K : Value → Prop) : pureP Pg (convert 32 3 (.int j n)) K ↔ K (.int .i64 (IntKind.i64.wrap n)) := pure_conv ⟨_, Try.underlying32⟩ Try.underlying3 j n K
@[simp] theorem conv_35_3 (j : IntKind) (n : Int) (K : Value → Prop) : pureP Pg (convert 35 3 (.int j n)) K ↔ K (.int .i64 (IntKind.i64.wrap n)) := pure_conv ⟨_, Try.underlying35⟩ Try.underlying3 j n K
@[simp] theorem conv_62_3 (j : IntKind) (n : Int) (K : Value → Prop) : pureP Pg (convert 62 3 (.int j n)) K ↔ K (.int .i64 (IntKind.i64.wrap n)) := pure_conv ⟨_, Try.underlying62⟩ Try.underlying3 j n K
@[simp] theorem conv_161_3 (j : IntKind) (n : Int) (K : Value → Prop) : pureP Pg (convert 161 3 (.int j n)) K ↔ K (.int .i64 (IntKind.i64.wrap n)) := pure_conv ⟨_, Try.underlying161⟩ Try.underlying3 j n K
@[simp] theorem build_34_0_1 (x0 : Int) (x1 : Int) (K : Value → Prop) : pureP Pg (Instr.build 34 #[(0, (.int .u32 x0)), (1, (.int .u32 x1))]) K ↔ K (.agg #[.int .u32 x0, .int .u32 x1]) := pureP_of fun w => by simp [go_sem, Instr.build, Instr.fill]
@[simp] theorem build_38_0_1_2 (x0 : Int) (x1 : Int) (x2a : Option Addr) (x2n x2c : Nat) (K : Value → Prop) : pureP Pg (Instr.build 38 #[(0, (.int .u64 x0)), (1, (.int .i64 x1)), (2, (.slice x2a x2n x2c))]) K ↔ K (.agg #[.int .u64 x0, .int .i64 x1, .slice x2a x2n x2c, .slice none 0 0, .int .u32 0, .int .u32 0]) := pureP_of fun w => by simp [go_sem, Instr.build, Instr.fill]
@[simp] theorem build_40_0_2 (x0_0 : Int) (x0_1 : Int) (x2_0 : Int) (x2_1 : Int) (x2_2a : Option Addr) (x2_2n x2_2c : Nat) (x2_3a : Option Addr) (x2_3n x2_3c : Nat) (x2_4_0 : Int) (x2_4_1 : Int) (K : Value → Prop) : pureP Pg (Instr.build 40 #[(0, (.agg #[.int .u32 x0_0, .int .u32 x0_1])), (2, (.agg #[.int .u64 x2_0, .int .i64 x2_1, .slice x2_2a x2_2n x2_2c, .slice x2_3a x2_3n x2_3c, .int .u32 x2_4_0, .int .u32 x2_4_1]))]) K ↔ K (.agg #[.int .u32 x0_0, .int .u32 x0_1, .int .i64 0, .int .u64 x2_0, .int .i64 x2_1, .slice x2_2a x2_2n x2_2c, .slice x2_3a x2_3n x2_3c, .int .u32 x2_4_0, .int .u32 x2_4_1]) := pureP_of fun w => by simp [go_sem, Instr.build, Instr.fill]
@[simp] theorem build_55_0_1 (x0 : Int) (x1 : Int) (K : Value → Prop) : pureP Pg (Instr.build 55 #[(0, (.int .u64 x0)), (1, (.int .i64 x1))]) K ↔ K (.agg #[.int .u64 x0, .int .i64 x1]) := pureP_of fun w => by simp [go_sem, Instr.build, Instr.fill]
@[simp] theorem build_34_  (K : Value → Prop) : pureP Pg (Instr.build 34 #[]) K ↔ K (.agg #[.int .u32 0, .int .u32 0]) := pureP_of fun w => by simp [go_sem, Instr.build, Instr.fill]
@[simp] theorem build_79_1_2_3 (x1 : Int) (x2 : Int) (x3 : Int) (K : Value → Prop) : pureP Pg (Instr.build 79 #[(1, (.int .u64 x1)), (2, (.int .i64 x2)), (3, (.int .i64 x3))]) K ↔ K (.agg #[.slice none 0 0, .int .u64 x1, .int .i64 x2, .int .i64 x3]) := pureP_of fun w => by simp [go_sem, Instr.build, Instr.fill]
@[simp] theorem build_79_0_1_2_3 (x0a : Option Addr) (x0n x0c : Nat) (x1 : Int) (x2 : Int) (x3 : Int) (K : Value → Prop) : pureP Pg (Instr.build 79 #[(0, (.slice x0a x0n x0c)), (1, (.int .u64 x1)), (2, (.int .i64 x2)), (3, (.int .i64 x3))]) K ↔ K (.agg #[.slice x0a x0n x0c, .int .u64 x1, .int .i64 x2, .int .i64 x3]) := pureP_of fun w => by simp [go_sem, Instr.build, Instr.fill]
@[simp] theorem build_79_0_2_3 (x0a : Option Addr) (x0n x0c : Nat) (x2 : Int) (x3 : Int) (K : Value → Prop) : pureP Pg (Instr.build 79 #[(0, (.slice x0a x0n x0c)), (2, (.int .i64 x2)), (3, (.int .i64 x3))]) K ↔ K (.agg #[.slice x0a x0n x0c, .int .u64 0, .int .i64 x2, .int .i64 x3]) := pureP_of fun w => by simp [go_sem, Instr.build, Instr.fill]
@[simp] theorem build_79_0_1_3 (x0a : Option Addr) (x0n x0c : Nat) (x1 : Int) (x3 : Int) (K : Value → Prop) : pureP Pg (Instr.build 79 #[(0, (.slice x0a x0n x0c)), (1, (.int .u64 x1)), (3, (.int .i64 x3))]) K ↔ K (.agg #[.slice x0a x0n x0c, .int .u64 x1, .int .i64 0, .int .i64 x3]) := pureP_of fun w => by simp [go_sem, Instr.build, Instr.fill]
@[simp] theorem build_107_0_1_2_3 (x0a : Option Addr) (x0n x0c : Nat) (x1 : Int) (x2 : Int) (x3 : Int) (K : Value → Prop) : pureP Pg (Instr.build 107 #[(0, (.slice x0a x0n x0c)), (1, (.int .u64 x1)), (2, (.int .i64 x2)), (3, (.int .i64 x3))]) K ↔ K (.agg #[.slice x0a x0n x0c, .int .u64 x1, .int .i64 x2, .int .i64 x3]) := pureP_of fun w => by simp [go_sem, Instr.build, Instr.fill]
@[simp] theorem build_128_0_1 (x0 : Option Nat) (x1 : Option Nat) (K : Value → Prop) : pureP Pg (Instr.build 128 #[(0, (.map x0)), (1, (.map x1))]) K ↔ K (.agg #[.map x0, .map x1, .slice none 0 0, .int .u64 0]) := pureP_of fun w => by simp [go_sem, Instr.build, Instr.fill]
@[simp] theorem build_42_0_1_2 (x0_0 : Int) (x0_1 : Int) (x1 : Int) (x2 : Int) (K : Value → Prop) : pureP Pg (Instr.build 42 #[(0, (.agg #[.int .u32 x0_0, .int .u32 x0_1])), (1, (.int .u64 x1)), (2, (.int .i64 x2))]) K ↔ K (.agg #[.int .u32 x0_0, .int .u32 x0_1, .int .u64 x1, .int .i64 x2]) := pureP_of fun w => by simp [go_sem, Instr.build, Instr.fill]
@[simp] theorem build_42_  (K : Value → Prop) : pureP Pg (Instr.build 42 #[]) K ↔ K (.agg #[.int .u32 0, .int .u32 0, .int .u64 0, .int .i64 0]) := pureP_of fun w => by simp [go_sem, Instr.build, Instr.fill]
@[simp] theorem build_70_  (K : Value → Prop) : pureP Pg (Instr.build 70 #[]) K ↔ K (.agg #[.slice none 0 0, .slice none 0 0]) := pureP_of fun w => by simp [go_sem, Instr.build, Instr.fill]
@[simp] theorem build_75_0_1 (x0 : Int) (x1_0 : Int) (x1_1 : Int) (K : Value → Prop) : pureP Pg (Instr.build 75 #[(0, (.int .i64 x0)), (1, (.agg #[.int .u32 x1_0, .int .u32 x1_1]))]) K ↔ K (.agg #[.int .i64 x0, .int .u32 x1_0, .int .u32 x1_1, .int .u32 0, .int .u32 0]) := pureP_of fun w => by simp [go_sem, Instr.build, Instr.fill]
@[simp] theorem build_75_0_1_2 (x0 : Int) (x1_0 : Int) (x1_1 : Int) (x2_0 : Int) (x2_1 : Int) (K : Value → Prop) : pureP Pg (Instr.build 75 #[(0, (.int .i64 x0)), (1, (.agg #[.int .u32 x1_0, .int .u32 x1_1])), (2, (.agg #[.int .u32 x2_0, .int .u32 x2_1]))]) K ↔ K (.agg #[.int .i64 x0, .int .u32 x1_0, .int .u32 x1_1, .int .u32 x2_0, .int .u32 x2_1]) := pureP_of fun w => by simp [go_sem, Instr.build, Instr.fill]
@[simp] theorem build_116_0_1_2_3_4 (x0 : Int) (x1 : Int) (x2 : Int) (x3 : Int) (x4 : Int) (K : Value → Prop) : pureP Pg (Instr.build 116 #[(0, (.int .u32 x0)), (1, (.int .u32 x1)), (2, (.int .u32 x2)), (3, (.int .u64 x3)), (4, (.int .u64 x4))]) K ↔ K (.agg #[.int .u32 x0, .int .u32 x1, .int .u32 x2, .int .u64 x3, .int .u64 x4]) := pureP_of fun w => by simp [go_sem, Instr.build, Instr.fill]
@[simp] theorem build_153_0_1 (x0 : Int) (x1a : Option Addr) (x1n x1c : Nat) (K : Value → Prop) : pureP Pg (Instr.build 153 #[(0, (.int .u64 x0)), (1, (.slice x1a x1n x1c))]) K ↔ K (.agg #[.int .u64 x0, .slice x1a x1n x1c, .int .i64 0]) := pureP_of fun w => by simp [go_sem, Instr.build, Instr.fill]
@[simp] theorem build_111_  (K : Value → Prop) : pureP Pg (Instr.build 111 #[]) K ↔ K (.agg #[.slice none 0 0, .slice none 0 0]) := pureP_of fun w => by simp [go_sem, Instr.build, Instr.fill]
@[simp] theorem build_116_0_1_3 (x0 : Int) (x1 : Int) (x3 : Int) (K : Value → Prop) : pureP Pg (Instr.build 116 #[(0, (.int .u32 x0)), (1, (.int .u32 x1)), (3, (.int .u64 x3))]) K ↔ K (.agg #[.int .u32 x0, .int .u32 x1, .int .u32 0, .int .u64 x3, .int .u64 0]) := pureP_of fun w => by simp [go_sem, Instr.build, Instr.fill]
@[simp] theorem build_119_0_1_2 (x0 : Int) (x1_0 : Int) (x1_1 : Int) (x2_0 : Int) (x2_1 : Int) (K : Value → Prop) : pureP Pg (Instr.build 119 #[(0, (.int .i64 x0)), (1, (.agg #[.int .u32 x1_0, .int .u32 x1_1])), (2, (.agg #[.int .u32 x2_0, .int .u32 x2_1]))]) K ↔ K (.agg #[.int .i64 x0, .int .u32 x1_0, .int .u32 x1_1, .int .u32 x2_0, .int .u32 x2_1]) := pureP_of fun w => by simp [go_sem, Instr.build, Instr.fill]
@[simp] theorem build_38_0_1_2_4 (x0 : Int) (x1 : Int) (x2a : Option Addr) (x2n x2c : Nat) (x4_0 : Int) (x4_1 : Int) (K : Value → Prop) : pureP Pg (Instr.build 38 #[(0, (.int .u64 x0)), (1, (.int .i64 x1)), (2, (.slice x2a x2n x2c)), (4, (.agg #[.int .u32 x4_0, .int .u32 x4_1]))]) K ↔ K (.agg #[.int .u64 x0, .int .i64 x1, .slice x2a x2n x2c, .slice none 0 0, .int .u32 x4_0, .int .u32 x4_1]) := pureP_of fun w => by simp [go_sem, Instr.build, Instr.fill]
@[simp] theorem build_96_0_1_2_3 (x0 : Bool) (x1a : Option Addr) (x1n x1c : Nat) (x2 : Int) (x3 : Int) (K : Value → Prop) : pureP Pg (Instr.build 96 #[(0, (.bool x0)), (1, (.slice x1a x1n x1c)), (2, (.int .u64 x2)), (3, (.int .i64 x3))]) K ↔ K (.agg #[.bool x0, .slice x1a x1n x1c, .int .u64 x2, .int .i64 x3]) := pureP_of fun w => by simp [go_sem, Instr.build, Instr.fill]
@[simp] theorem build_96_  (K : Value → Prop) : pureP Pg (Instr.build 96 #[]) K ↔ K (.agg #[.bool false, .slice none 0 0, .int .u64 0, .int .i64 0]) := pureP_of fun w => by simp [go_sem, Instr.build, Instr.fill]
@[simp] theorem bsl_36_1_0 (x0 : Int) (w : World) (K : Value → World → Prop) : S Pg (Instr.buildSlice 36 1 #[(0, (.int .u8 x0))]) w K ↔ K (.slice (some ⟨w.heap.size, 0, none⟩) 1 1) (ext w [.cells #[.int .u8 x0] 5]) := S_of (by rw [ext_one]; simp [go_sem, Instr.buildSlice, Instr.fill])
@[simp] theorem bsl_53_1_0 (x0_0 : Int) (x0_1 : Int) (w : World) (K : Value → World → Prop) : S Pg (Instr.buildSlice 53 1 #[(0, (.agg #[.int .u64 x0_0, .int .i64 x0_1]))]) w K ↔ K (.slice (some ⟨w.heap.size, 0, none⟩) 1 1) (ext w [.cells #[.int .u64 x0_0, .int .i64 x0_1] 55]) := S_of (by rw [ext_one]; simp [go_sem, Instr.buildSlice, Instr.fill])
@[simp] theorem bsl_66_1_0 (x0 : Int) (w : World) (K : Value → World → Prop) : S Pg (Instr.buildSlice 66 1 #[(0, (.int .u64 x0))]) w K ↔ K (.slice (some ⟨w.heap.size, 0, none⟩) 1 1) (ext w [.cells #[.int .u64 x0] 35]) := S_of (by rw [ext_one]; simp [go_sem, Instr.buildSlice, Instr.fill])
@[simp] theorem bsl_73_1_0 (x0 : Int) (w : World) (K : Value → World → Prop) : S Pg (Instr.buildSlice 73 1 #[(0, (.int .i64 x0))]) w K ↔ K (.slice (some ⟨w.heap.size, 0, none⟩) 1 1) (ext w [.cells #[.int .i64 x0] 3]) := S_of (by rw [ext_one]; simp [go_sem, Instr.buildSlice, Instr.fill])
@[simp] theorem bsl_63_1_0 (x0_0a : Option Addr) (x0_0n x0_0c : Nat) (x0_1 : Int) (x0_2 : Int) (x0_3 : Int) (w : World) (K : Value → World → Prop) : S Pg (Instr.buildSlice 63 1 #[(0, (.agg #[.slice x0_0a x0_0n x0_0c, .int .u64 x0_1, .int .i64 x0_2, .int .i64 x0_3]))]) w K ↔ K (.slice (some ⟨w.heap.size, 0, none⟩) 1 1) (ext w [.cells #[.slice x0_0a x0_0n x0_0c, .int .u64 x0_1, .int .i64 x0_2, .int .i64 x0_3] 79]) := S_of (by rw [ext_one]; simp [go_sem, Instr.buildSlice, Instr.fill])
@[simp] theorem bsl_105_1_0 (x0_0a : Option Addr) (x0_0n x0_0c : Nat) (x0_1 : Int) (x0_2 : Int) (x0_3 : Int) (w : World) (K : Value → World → Prop) : S Pg (Instr.buildSlice 105 1 #[(0, (.agg #[.slice x0_0a x0_0n x0_0c, .int .u64 x0_1, .int .i64 x0_2, .int .i64 x0_3]))]) w K ↔ K (.slice (some ⟨w.heap.size, 0, none⟩) 1 1) (ext w [.cells #[.slice x0_0a x0_0n x0_0c, .int .u64 x0_1, .int .i64 x0_2, .int .i64 x0_3] 107]) := S_of (by rw [ext_one]; simp [go_sem, Instr.buildSlice, Instr.fill])
@[simp] theorem bsl_47_1_0 (x0_0 : Int) (x0_1 : Int) (w : World) (K : Value → World → Prop) : S Pg (Instr.buildSlice 47 1 #[(0, (.agg #[.int .u32 x0_0, .int .u32 x0_1]))]) w K ↔ K (.slice (some ⟨w.heap.size, 0, none⟩) 1 1) (ext w [.cells #[.int .u32 x0_0, .int .u32 x0_1] 34]) := S_of (by rw [ext_one]; simp [go_sem, Instr.buildSlice, Instr.fill])
@[simp] theorem bsl_23_1_0 (x0_0_0 : Int) (x0_0_1 : Int) (x0_1 : Int) (x0_2_0 : Int) (x0_2_1 : Int) (x0_2_2a : Option Addr) (x0_2_2n x0_2_2c : Nat) (x0_2_3a : Option Addr) (x0_2_3n x0_2_3c : Nat) (x0_2_4_0 : Int) (x0_2_4_1 : Int) (w : World) (K : Value → World → Prop) : S Pg (Instr.buildSlice 23 1 #[(0, (.agg #[.int .u32 x0_0_0, .int .u32 x0_0_1, .int .i64 x0_1, .int .u64 x0_2_0, .int .i64 x0_2_1, .slice x0_2_2a x0_2_2n x0_2_2c, .slice x0_2_3a x0_2_3n x0_2_3c, .int .u32 x0_2_4_0, .int .u32 x0_2_4_1]))]) w K ↔ K (.slice (some ⟨w.heap.size, 0, none⟩) 1 1) (ext w [.cells #[.int .u32 x0_0_0, .int .u32 x0_0_1, .int .i64 x0_1, .int .u64 x0_2_0, .int .i64 x0_2_1, .slice x0_2_2a x0_2_2n x0_2_2c, .slice x0_2_3a x0_2_3n x0_2_3c, .int .u32 x0_2_4_0, .int .u32 x0_2_4_1] 40]) := S_of (by rw [ext_one]; simp [go_sem, Instr.buildSlice, Instr.fill])
@[simp] theorem bsl_53_3_0_1_2 (x0_0 : Int) (x0_1 : Int) (x1_0 : Int) (x1_1 : Int) (x2_0 : Int) (x2_1 : Int) (w : World) (K : Value → World → Prop) : S Pg (Instr.buildSlice 53 3 #[(0, (.agg #[.int .u64 x0_0, .int .i64 x0_1])), (1, (.agg #[.int .u64 x1_0, .int .i64 x1_1])), (2, (.agg #[.int .u64 x2_0, .int .i64 x2_1]))]) w K ↔ K (.slice (some ⟨w.heap.size, 0, none⟩) 3 3) (ext w [.cells #[.int .u64 x0_0, .int .i64 x0_1, .int .u64 x1_0, .int .i64 x1_1, .int .u64 x2_0, .int .i64 x2_1] 55]) := S_of (by rw [ext_one]; simp [go_sem, Instr.buildSlice, Instr.fill])
@[simp] theorem bsl_53_2_0_1 (x0_0 : Int) (x0_1 : Int) (x1_0 : Int) (x1_1 : Int) (w : World) (K : Value → World → Prop) : S Pg (Instr.buildSlice 53 2 #[(0, (.agg #[.int .u64 x0_0, .int .i64 x0_1])), (1, (.agg #[.int .u64 x1_0, .int .i64 x1_1]))]) w K ↔ K (.slice (some ⟨w.heap.size, 0, none⟩) 2 2) (ext w [.cells #[.int .u64 x0_0, .int .i64 x0_1, .int .u64 x1_0, .int .i64 x1_1] 55]) := S_of (by rw [ext_one]; simp [go_sem, Instr.buildSlice, Instr.fill])
@[simp] theorem bsl_66_2_0_1 (x0 : Int) (x1 : Int) (w : World) (K : Value → World → Prop) : S Pg (Instr.buildSlice 66 2 #[(0, (.int .u64 x0)), (1, (.int .u64 x1))]) w K ↔ K (.slice (some ⟨w.heap.size, 0, none⟩) 2 2) (ext w [.cells #[.int .u64 x0, .int .u64 x1] 35]) := S_of (by rw [ext_one]; simp [go_sem, Instr.buildSlice, Instr.fill])
@[simp] theorem bsl_73_2_0_1 (x0 : Int) (x1 : Int) (w : World) (K : Value → World → Prop) : S Pg (Instr.buildSlice 73 2 #[(0, (.int .i64 x0)), (1, (.int .i64 x1))]) w K ↔ K (.slice (some ⟨w.heap.size, 0, none⟩) 2 2) (ext w [.cells #[.int .i64 x0, .int .i64 x1] 3]) := S_of (by rw [ext_one]; simp [go_sem, Instr.buildSlice, Instr.fill])
@[simp] theorem bsl_36_2_0_1 (x0 : Int) (x1 : Int) (w : World) (K : Value → World → Prop) : S Pg (Instr.buildSlice 36 2 #[(0, (.int .u8 x0)), (1, (.int .u8 x1))]) w K ↔ K (.slice (some ⟨w.heap.size, 0, none⟩) 2 2) (ext w [.cells #[.int .u8 x0, .int .u8 x1] 5]) := S_of (by rw [ext_one]; simp [go_sem, Instr.buildSlice, Instr.fill])
@[simp] theorem bsl_67_1_0 (x0_0 : Int) (x0_1_0 : Int) (x0_1_1 : Int) (x0_2_0 : Int) (x0_2_1 : Int) (w : World) (K : Value → World → Prop) : S Pg (Instr.buildSlice 67 1 #[(0, (.agg #[.int .i64 x0_0, .int .u32 x0_1_0, .int .u32 x0_1_1, .int .u32 x0_2_0, .int .u32 x0_2_1]))]) w K ↔ K (.slice (some ⟨w.heap.size, 0, none⟩) 1 1) (ext w [.cells #[.int .i64 x0_0, .int .u32 x0_1_0, .int .u32 x0_1_1, .int .u32 x0_2_0, .int .u32 x0_2_1] 75]) := S_of (by rw [ext_one]; simp [go_sem, Instr.buildSlice, Instr.fill])
@[simp] theorem bsl_67_3_0_1_2 (x0_0 : Int) (x0_1_0 : Int) (x0_1_1 : Int) (x0_2_0 : Int) (x0_2_1 : Int) (x1_0 : Int) (x1_1_0 : Int) (x1_1_1 : Int) (x1_2_0 : Int) (x1_2_1 : Int) (x2_0 : Int) (x2_1_0 : Int) (x2_1_1 : Int) (x2_2_0 : Int) (x2_2_1 : Int) (w : World) (K : Value → World → Prop) : S Pg (Instr.buildSlice 67 3 #[(0, (.agg #[.int .i64 x0_0, .int .u32 x0_1_0, .int .u32 x0_1_1, .int .u32 x0_2_0, .int .u32 x0_2_1])), (1, (.agg #[.int .i64 x1_0, .int .u32 x1_1_0, .int .u32 x1_1_1, .int .u32 x1_2_0, .int .u32 x1_2_1])), (2, (.agg #[.int .i64 x2_0, .int .u32 x2_1_0, .int .u32 x2_1_1, .int .u32 x2_2_0, .int .u32 x2_2_1]))]) w K ↔ K (.slice (some ⟨w.heap.size, 0, none⟩) 3 3) (ext w [.cells #[.int .i64 x0_0, .int .u32 x0_1_0, .int .u32 x0_1_1, .int .u32 x0_2_0, .int .u32 x0_2_1, .int .i64 x1_0, .int .u32 x1_1_0, .int .u32 x1_1_1, .int .u32 x1_2_0, .int .u32 x1_2_1, .int .i64 x2_0, .int .u32 x2_1_0, .int .u32 x2_1_1, .int .u32 x2_2_0, .int .u32 x2_2_1] 75]) := S_of (by rw [ext_one]; simp [go_sem, Instr.buildSlice, Instr.fill])
@[simp] theorem bsl_68_1_0 (x0_0 : Int) (x0_1 : Int) (x0_2 : Int) (x0_3 : Int) (x0_4 : Int) (w : World) (K : Value → World → Prop) : S Pg (Instr.buildSlice 68 1 #[(0, (.agg #[.int .u32 x0_0, .int .u32 x0_1, .int .u32 x0_2, .int .u64 x0_3, .int .u64 x0_4]))]) w K ↔ K (.slice (some ⟨w.heap.size, 0, none⟩) 1 1) (ext w [.cells #[.int .u32 x0_0, .int .u32 x0_1, .int .u32 x0_2, .int .u64 x0_3, .int .u64 x0_4] 116]) := S_of (by rw [ext_one]; simp [go_sem, Instr.buildSlice, Instr.fill])
@[simp] theorem bsl_63_5_0_1_2_3_4 (x0_0a : Option Addr) (x0_0n x0_0c : Nat) (x0_1 : Int) (x0_2 : Int) (x0_3 : Int) (x1_0a : Option Addr) (x1_0n x1_0c : Nat) (x1_1 : Int) (x1_2 : Int) (x1_3 : Int) (x2_0a : Option Addr) (x2_0n x2_0c : Nat) (x2_1 : Int) (x2_2 : Int) (x2_3 : Int) (x3_0a : Option Addr) (x3_0n x3_0c : Nat) (x3_1 : Int) (x3_2 : Int) (x3_3 : Int) (x4_0a : Option Addr) (x4_0n x4_0c : Nat) (x4_1 : Int) (x4_2 : Int) (x4_3 : Int) (w : World) (K : Value → World → Prop) : S Pg (Instr.buildSlice 63 5 #[(0, (.agg #[.slice x0_0a x0_0n x0_0c, .int .u64 x0_1, .int .i64 x0_2, .int .i64 x0_3])), (1, (.agg #[.slice x1_0a x1_0n x1_0c, .int .u64 x1_1, .int .i64 x1_2, .int .i64 x1_3])), (2, (.agg #[.slice x2_0a x2_0n x2_0c, .int .u64 x2_1, .int .i64 x2_2, .int .i64 x2_3])), (3, (.agg #[.slice x3_0a x3_0n x3_0c, .int .u64 x3_1, .int .i64 x3_2, .int .i64 x3_3])), (4, (.agg #[.slice x4_0a x4_0n x4_0c, .int .u64 x4_1, .int .i64 x4_2, .int .i64 x4_3]))]) w K ↔ K (.slice (some ⟨w.heap.size, 0, none⟩) 5 5) (ext w [.cells #[.slice x0_0a x0_0n x0_0c, .int .u64 x0_1, .int .i64 x0_2, .int .i64 x0_3, .slice x1_0a x1_0n x1_0c, .int .u64 x1_1, .int .i64 x1_2, .int .i64 x1_3, .slice x2_0a x2_0n x2_0c, .int .u64 x2_1, .int .i64 x2_2, .int .i64 x2_3, .slice x3_0a x3_0n x3_0c, .int .u64 x3_1, .int .i64 x3_2, .int .i64 x3_3, .slice x4_0a x4_0n x4_0c, .int .u64 x4_1, .int .i64 x4_2, .int .i64 x4_3] 79]) := S_of (by rw [ext_one]; simp [go_sem, Instr.buildSlice, Instr.fill])
@[simp] theorem bsl_36_0_  (w : World) (K : Value → World → Prop) : S Pg (Instr.buildSlice 36 0 #[]) w K ↔ K (.slice (some ⟨w.heap.size, 0, none⟩) 0 0) (ext w [.cells #[] 5]) := S_of (by rw [ext_one]; simp [go_sem, Instr.buildSlice, Instr.fill])
@[simp] theorem bsl_66_0_  (w : World) (K : Value → World → Prop) : S Pg (Instr.buildSlice 66 0 #[]) w K ↔ K (.slice (some ⟨w.heap.size, 0, none⟩) 0 0) (ext w [.cells #[] 35]) := S_of (by rw [ext_one]; simp [go_sem, Instr.buildSlice, Instr.fill])
@[simp] theorem bsl_109_1_0 (x0_0 : Int) (x0_1_0 : Int) (x0_1_1 : Int) (x0_2_0 : Int) (x0_2_1 : Int) (w : World) (K : Value → World → Prop) : S Pg (Instr.buildSlice 109 1 #[(0, (.agg #[.int .i64 x0_0, .int .u32 x0_1_0, .int .u32 x0_1_1, .int .u32 x0_2_0, .int .u32 x0_2_1]))]) w K ↔ K (.slice (some ⟨w.heap.size, 0, none⟩) 1 1) (ext w [.cells #[.int .i64 x0_0, .int .u32 x0_1_0, .int .u32 x0_1_1, .int .u32 x0_2_0, .int .u32 x0_2_1] 119]) := S_of (by rw [ext_one]; simp [go_sem, Instr.buildSlice, Instr.fill])
@[simp] theorem bsl_47_0_  (w : World) (K : Value → World → Prop) : S Pg (Instr.buildSlice 47 0 #[]) w K ↔ K (.slice (some ⟨w.heap.size, 0, none⟩) 0 0) (ext w [.cells #[] 34]) := S_of (by rw [ext_one]; simp [go_sem, Instr.buildSlice, Instr.fill])
@[simp] theorem bsl_93_0_  (w : World) (K : Value → World → Prop) : S Pg (Instr.buildSlice 93 0 #[]) w K ↔ K (.slice (some ⟨w.heap.size, 0, none⟩) 0 0) (ext w [.cells #[] 96]) := S_of (by rw [ext_one]; simp [go_sem, Instr.buildSlice, Instr.fill])
end Go.Proofs.Ytbcmoikpmmjlkaa
