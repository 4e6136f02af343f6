/-
  THE SEAT'S TYPES: the table of the types that the engine asks for, and that the program's own types are so.
-/
import Derived.Test.YtjnbmbhkgapcfabProg
import Derived.Test.YtjnbmbhkgapcfabRxZc
import Derived.KernelRfl
namespace Go.Rx
open Go
noncomputable def ty1 : TyI := ⟨1, 8, false, none, none, false, false, [], [.any], .nil, false⟩
noncomputable def ty2 : TyI := ⟨1, 8, false, none, some .i64, false, false, [], [.d (.int .i64) (0 : Int)], (.cons (.int .i64) .nil), false⟩
noncomputable def ty3 : TyI := ⟨1, 8, false, none, some .i64, false, false, [], [.d (.int .i64) (0 : Int)], (.cons (.int .i64) .nil), false⟩
noncomputable def ty4 : TyI := ⟨1, 1, false, none, none, false, true, [], [.d .bool false], (.cons .bool .nil), false⟩
noncomputable def ty5 : TyI := ⟨1, 1, false, none, some .u8, false, false, [], [.d (.int .u8) (0 : Int)], (.cons (.int .u8) .nil), false⟩
noncomputable def ty9 : TyI := ⟨1, 16, false, none, none, true, false, [], [.d .str ByteArray.empty], (.cons .str .nil), false⟩
noncomputable def ty12 : TyI := ⟨1, 8, false, none, some .u64, false, false, [], [.d (.int .u64) (0 : Int)], (.cons (.int .u64) .nil), false⟩
noncomputable def ty21 : TyI := ⟨1, 4, false, none, some .i32, false, false, [], [.d (.int .i32) (0 : Int)], (.cons (.int .i32) .nil), false⟩
noncomputable def ty22 : TyI := ⟨1, 24, false, some 5, none, false, false, [], [.nil], (.cons (.sl ((.cons (.int .u8) .nil))) .nil), false⟩
noncomputable def ty23 : TyI := ⟨1, 24, false, some 31, none, false, false, [], [.nil], (.cons (.sl ((.cons .str (.cons .bool (.cons (.sl ((.cons (.int .i64) (.cons (.int .i64) (.cons .str .nil))))) .nil))))) .nil), false⟩
noncomputable def ty24 : TyI := ⟨1, 8, false, none, none, false, false, [], [.any], .nil, false⟩
noncomputable def ty25 : TyI := ⟨1, 8, false, none, none, false, false, [], [.any], .nil, false⟩
noncomputable def ty26 : TyI := ⟨1, 8, false, none, none, false, false, [], [.any], .nil, false⟩
noncomputable def ty27 : TyI := ⟨3, 32, true, none, none, false, false, [(0, 3), (1, 3), (2, 9)], [.d (.int .i64) (0 : Int), .d (.int .i64) (0 : Int), .d .str ByteArray.empty], (.cons (.int .i64) (.cons (.int .i64) (.cons .str .nil))), true⟩
noncomputable def ty28 : TyI := ⟨3, 32, true, none, none, false, false, [(0, 3), (1, 3), (2, 9)], [.d (.int .i64) (0 : Int), .d (.int .i64) (0 : Int), .d .str ByteArray.empty], (.cons (.int .i64) (.cons (.int .i64) (.cons .str .nil))), true⟩
noncomputable def ty29 : TyI := ⟨1, 24, false, some 28, none, false, false, [], [.nil], (.cons (.sl ((.cons (.int .i64) (.cons (.int .i64) (.cons .str .nil))))) .nil), false⟩
noncomputable def ty30 : TyI := ⟨3, 48, true, none, none, false, false, [(0, 9), (1, 4), (2, 29)], [.d .str ByteArray.empty, .d .bool false, .nil], (.cons .str (.cons .bool (.cons (.sl ((.cons (.int .i64) (.cons (.int .i64) (.cons .str .nil))))) .nil))), false⟩
noncomputable def ty31 : TyI := ⟨3, 48, true, none, none, false, false, [(0, 9), (1, 4), (2, 29)], [.d .str ByteArray.empty, .d .bool false, .nil], (.cons .str (.cons .bool (.cons (.sl ((.cons (.int .i64) (.cons (.int .i64) (.cons .str .nil))))) .nil))), false⟩
noncomputable def ty32 : TyI := ⟨1, 8, false, none, none, false, false, [], [.any], .nil, false⟩
noncomputable def ty33 : TyI := ⟨1, 8, false, none, none, false, false, [], [.any], .nil, false⟩
noncomputable def ty35 : TyI := ⟨1, 8, false, none, none, false, false, [], [.any], .nil, false⟩
noncomputable def ty36 : TyI := ⟨1, 8, false, none, none, false, false, [], [.any], .nil, false⟩
noncomputable def ty37 : TyI := ⟨1, 24, false, some 9, none, false, false, [], [.nil], (.cons (.sl ((.cons .str .nil))) .nil), false⟩
noncomputable def ty38 : TyI := ⟨1, 8, false, none, none, false, false, [], [.any], .nil, false⟩
noncomputable def ty39 : TyI := ⟨1, 8, false, none, none, false, false, [], [.any], .nil, false⟩
noncomputable def ty40 : TyI := ⟨1, 8, false, none, none, false, false, [], [.any], .nil, false⟩
noncomputable def ty41 : TyI := ⟨1, 8, false, none, none, false, false, [], [.any], .nil, false⟩
noncomputable def ty42 : TyI := ⟨1, 8, false, none, none, false, false, [], [.any], .nil, false⟩
noncomputable def ty43 : TyI := ⟨1, 8, false, none, none, false, false, [], [.any], .nil, false⟩
noncomputable def ty44 : TyI := ⟨2, 32, true, none, none, false, false, [(0, 22), (1, 3)], [.nil, .d (.int .i64) (0 : Int)], (.cons (.sl ((.cons (.int .u8) .nil))) (.cons (.int .i64) .nil)), false⟩
noncomputable def ty45 : TyI := ⟨2, 32, true, none, none, false, false, [(0, 22), (1, 3)], [.nil, .d (.int .i64) (0 : Int)], (.cons (.sl ((.cons (.int .u8) .nil))) (.cons (.int .i64) .nil)), false⟩
noncomputable def ty46 : TyI := ⟨1, 8, false, none, none, false, false, [], [.any], .nil, false⟩
noncomputable def ty47 : TyI := ⟨1, 8, false, none, none, false, false, [], [.any], .nil, false⟩
noncomputable def ty48 : TyI := ⟨1, 8, false, none, none, false, false, [], [.any], .nil, false⟩
noncomputable def ty49 : TyI := ⟨1, 8, false, none, none, false, false, [], [.any], .nil, false⟩
noncomputable def ty50 : TyI := ⟨1, 8, false, none, none, false, false, [], [.any], .nil, false⟩
noncomputable def ty52 : TyI := ⟨1, 8, false, none, none, false, false, [], [.any], .nil, false⟩
noncomputable def ty53 : TyI := ⟨1, 8, false, none, none, false, false, [], [.any], .nil, false⟩
noncomputable def ty54 : TyI := ⟨1, 24, false, some 23, none, false, false, [], [.nil], (.cons (.sl ((.cons (.sl ((.cons .str (.cons .bool (.cons (.sl ((.cons (.int .i64) (.cons (.int .i64) (.cons .str .nil))))) .nil))))) .nil))) .nil), false⟩
noncomputable def ty55 : TyI := ⟨1, 8, false, none, none, false, false, [], [.any], .nil, false⟩
noncomputable def ty56 : TyI := ⟨1, 8, false, none, none, false, false, [], [.any], .nil, false⟩
noncomputable def ty57 : TyI := ⟨1, 8, false, none, none, false, false, [], [.any], .nil, false⟩
noncomputable def ty58 : TyI := ⟨1, 8, false, none, none, false, false, [], [.any], .nil, false⟩
noncomputable def ty59 : TyI := ⟨1, 8, false, none, none, false, false, [], [.any], .nil, false⟩
noncomputable def ty60 : TyI := ⟨1, 8, false, none, none, false, false, [], [.any], .nil, false⟩
noncomputable def ty61 : TyI := ⟨1, 8, false, none, none, false, false, [], [.any], .nil, false⟩
noncomputable def ty64 : TyI := ⟨1, 8, false, none, none, false, false, [], [.any], .nil, false⟩
noncomputable def ty65 : TyI := ⟨1, 8, false, none, none, false, false, [], [.any], .nil, false⟩
noncomputable def ty66 : TyI := ⟨1, 8, false, none, none, false, false, [], [.any], .nil, false⟩
noncomputable def ty68 : TyI := ⟨1, 8, false, none, none, false, false, [], [.any], .nil, false⟩
noncomputable def ty69 : TyI := ⟨1, 8, false, none, none, false, false, [], [.any], .nil, false⟩
noncomputable def ty70 : TyI := ⟨1, 8, false, none, none, false, false, [], [.any], .nil, false⟩
noncomputable def ty71 : TyI := ⟨1, 8, false, none, none, false, false, [], [.any], .nil, false⟩
noncomputable def ty72 : TyI := ⟨1, 8, false, none, none, false, false, [], [.any], .nil, false⟩
noncomputable def ty73 : TyI := ⟨1, 8, false, none, none, false, false, [], [.any], .nil, false⟩
noncomputable def ty74 : TyI := ⟨1, 8, false, none, some .u64, false, false, [], [.d (.int .u64) (0 : Int)], (.cons (.int .u64) .nil), false⟩
noncomputable def ty75 : TyI := ⟨1, 8, false, none, none, false, false, [], [.any], .nil, false⟩
noncomputable def ty76 : TyI := ⟨1, 8, false, none, none, false, false, [], [.any], .nil, false⟩
noncomputable def ty77 : TyI := ⟨1, 8, false, none, none, false, false, [], [.any], .nil, false⟩
noncomputable def ty78 : TyI := ⟨1, 8, false, none, none, false, false, [], [.any], .nil, false⟩
noncomputable def ty79 : TyI := ⟨1, 8, false, none, some .i64, false, false, [], [.d (.int .i64) (0 : Int)], (.cons (.int .i64) .nil), false⟩
noncomputable def ty81 : TyI := ⟨1, 8, false, none, none, false, false, [], [.any], .nil, false⟩
noncomputable def ty82 : TyI := ⟨1, 8, false, none, none, false, false, [], [.any], .nil, false⟩
noncomputable def ty83 : TyI := ⟨1, 8, false, none, none, false, false, [], [.any], .nil, false⟩
noncomputable def ty84 : TyI := ⟨1, 8, false, none, none, false, false, [], [.any], .nil, false⟩
noncomputable def ty86 : TyI := ⟨1, 8, false, none, none, false, false, [], [.any], .nil, false⟩
noncomputable def ty87 : TyI := ⟨1, 8, false, none, none, false, false, [], [.any], .nil, false⟩
noncomputable def ty88 : TyI := ⟨1, 4, false, none, some .u32, false, false, [], [.d (.int .u32) (0 : Int)], (.cons (.int .u32) .nil), false⟩
noncomputable def ty89 : TyI := ⟨1, 8, false, none, none, false, false, [], [.any], .nil, false⟩
noncomputable def ty90 : TyI := ⟨1, 8, false, none, some .u64, false, false, [], [.d (.int .u64) (0 : Int)], (.cons (.int .u64) .nil), false⟩
noncomputable def ty91 : TyI := ⟨1, 8, false, none, none, false, false, [], [.any], .nil, false⟩
noncomputable def ty92 : TyI := ⟨1, 8, false, none, some .u64, false, false, [], [.d (.int .u64) (0 : Int)], (.cons (.int .u64) .nil), false⟩
noncomputable def ty93 : TyI := ⟨1, 8, false, none, none, false, false, [], [.any], .nil, false⟩
noncomputable def ty94 : TyI := ⟨1, 8, false, none, none, false, false, [], [.any], .nil, false⟩
noncomputable def ty95 : TyI := ⟨1, 8, false, none, none, false, false, [], [.any], .nil, false⟩
noncomputable def ty97 : TyI := ⟨1, 8, false, none, none, false, false, [], [.any], .nil, false⟩
noncomputable def ty98 : TyI := ⟨1, 8, false, none, none, false, false, [], [.any], .nil, false⟩
noncomputable def ty99 : TyI := ⟨1, 24, false, some 3, none, false, false, [], [.nil], (.cons (.sl ((.cons (.int .i64) .nil))) .nil), false⟩
noncomputable def ty102 : TyI := ⟨1, 8, false, none, none, false, false, [], [.any], .nil, false⟩
noncomputable def ty103 : TyI := ⟨1, 8, false, none, none, false, false, [], [.any], .nil, false⟩
noncomputable def ty109 : TyI := ⟨1, 8, false, none, none, false, false, [], [.any], .nil, false⟩
noncomputable def ty112 : TyI := ⟨1, 8, false, none, none, false, false, [], [.any], .nil, false⟩
noncomputable def T0 : Tab := [(3, ty3), (4, ty4), (9, ty9), (1, ty1), (2, ty2), (5, ty5), (12, ty12), (21, ty21), (22, ty22), (23, ty23), (24, ty24), (25, ty25), (26, ty26), (27, ty27), (28, ty28), (29, ty29), (30, ty30), (31, ty31), (32, ty32), (33, ty33), (35, ty35), (36, ty36), (37, ty37), (38, ty38), (39, ty39), (40, ty40), (41, ty41), (42, ty42), (43, ty43), (44, ty44), (45, ty45), (46, ty46), (47, ty47), (48, ty48), (49, ty49), (50, ty50), (52, ty52), (53, ty53), (54, ty54), (55, ty55), (56, ty56), (57, ty57), (58, ty58), (59, ty59), (60, ty60), (61, ty61), (64, ty64), (65, ty65), (66, ty66), (68, ty68), (69, ty69), (70, ty70), (71, ty71), (72, ty72), (73, ty73), (74, ty74), (75, ty75), (76, ty76), (77, ty77), (78, ty78), (79, ty79), (81, ty81), (82, ty82), (83, ty83), (84, ty84), (86, ty86), (87, ty87), (88, ty88), (89, ty89), (90, ty90), (91, ty91), (92, ty92), (93, ty93), (94, ty94), (95, ty95), (97, ty97), (98, ty98), (99, ty99), (102, ty102), (103, ty103), (109, ty109), (112, ty112)]
theorem T0_ok : TabOk Go.Proofs.Try.prog T0 := tabB_ok (by kernel_rfl)
theorem T0_eq : EqOk Go.Proofs.Try.prog T0 := eqB_ok (by kernel_rfl)
theorem mixed : Go.Proofs.Try.prog.follows .mixedOrders = true := by kernel_rfl
abbrev I : Ty := .int .i64
abbrev cellT : Tys := .cons I (.cons I .nil)
abbrev intT : Tys := .cons I .nil
abbrev insT : Tys := .cons I (.cons I (.cons .str .nil))
abbrev cpuT : Tys := .cons I (.cons I (.cons (.sl intT) (.cons (.sl intT) (.cons I .nil))))
abbrev Cells := List (Int × Int × Unit)
abbrev Cell := Int × Int × Unit
abbrev Ints := List (Int × Unit)
end Go.Rx
