import Derived.Test.YtdiphholophdcaaDoorXKAbT4
set_option linter.all false
set_option maxRecDepth 20000
open Go Go.Ab
namespace Go.Proofs.YtdiphholophdcaaDoor.T
noncomputable def c6_0 : Cut := ⟨[], 0, 0, [], ⟨spr 49 0 [(0, .agg [.int .i64, .int .u64, .int .u64, .int .u64, .int .u64, .int .i64, .int .i64, .sl] .no)], [], [], []⟩⟩
noncomputable def o6x0 : OSh := ⟨.rets [.c .bool .no], [], []⟩
noncomputable def d6 : FnD := ⟨Tryd.f6, bodyOf Tryd.f6, .no, .plain, [c6_0], [o6x0]⟩
noncomputable def c7_0 : Cut := ⟨[], 0, 0, [], ⟨spr 47 0 [(0, .agg [.int .i64, .int .u64, .int .u64, .int .u64, .int .u64, .int .i64, .int .i64, .sl] .no)], [], [], []⟩⟩
noncomputable def o7x0 : OSh := ⟨.rets [.c .bool .no], [], []⟩
noncomputable def d7 : FnD := ⟨Tryd.f7, bodyOf Tryd.f7, .no, .plain, [c7_0], [o7x0]⟩
noncomputable def c8_0 : Cut := ⟨[], 0, 0, [], ⟨spr 80 0 [(0, .c .str .no)], [], [], []⟩⟩
noncomputable def c8_1 : Cut := ⟨[0, 1, 0, 1, 1, 1, 1, 1, 1, 1, 1, 1], 0, 0, [], ⟨spr 80 0 [(0, .c .str .no), (7, .c .sl .no), (8, .c (.int .i64) .no), (12, .c .bool .no), (30, .c .bool .no), (35, .c .bool .no), (39, .c .bool .no), (46, .c .bool .no)], [], [.cells [.c (.int .i64) .no, .c (.int .u64) .no, .c (.int .u64) .no, .c (.int .u64) .no, .c (.int .u64) .no, .c (.int .i64) .no, .c (.int .i64) .no, .c .sl .no]], []⟩⟩
noncomputable def o8x0 : OSh := ⟨.rets [.c .bool .no], [], []⟩
noncomputable def d8 : FnD := ⟨Tryd.f8, bodyOf Tryd.f8, .no, .plain, [c8_0, c8_1], [o8x0]⟩
noncomputable def c19_0 : Cut := ⟨[], 0, 0, [], ⟨spr 6 0 [(0, .agg [.int .i64, .int .u64, .int .u64, .int .u64, .int .u64, .int .i64, .int .i64, .sl] .no)], [], [], []⟩⟩
noncomputable def o19x0 : OSh := ⟨.rets [.c .bool .no], [], []⟩
noncomputable def d19 : FnD := ⟨Tryd.f19, bodyOf Tryd.f19, .no, .plain, [c19_0], [o19x0]⟩
noncomputable def c20_0 : Cut := ⟨[], 0, 0, [], ⟨spr 40 0 [], [], [], []⟩⟩
noncomputable def o20x0 : OSh := ⟨.rets [.c .bool .no], [], []⟩
noncomputable def d20 : FnD := ⟨Tryd.f20, bodyOf Tryd.f20, .no, .plain, [c20_0], [o20x0]⟩
noncomputable def c21_0 : Cut := ⟨[], 0, 0, [], ⟨spr 132 0 [(0, .agg [.int .i64, .int .u64, .int .u64, .int .u64, .int .u64, .int .i64, .int .i64, .sl] .no), (1, .c (.int .i64) .no), (2, .c (.int .i64) .no)], [], [], []⟩⟩
noncomputable def c21_1 : Cut := ⟨[0, 1, 0, 1, 1], 0, 0, [], ⟨spr 132 0 [(1, .c (.int .i64) .no), (2, .c (.int .i64) .no), (3, .c (.fix (.ptr 0 0)) .no), (7, .c (.int .i64) .no), (54, .c .bool .no)], [], [.cells [.c (.int .i64) .no, .c (.int .u64) .no, .c (.int .u64) .no, .c (.int .u64) .no, .c (.int .u64) .no, .c (.int .i64) .no, .c (.int .i64) .no, .c .sl .no]], []⟩⟩
noncomputable def c21_2 : Cut := ⟨[1, 1, 0, 1, 1], 0, 0, [], ⟨spr 132 0 [(1, .c (.int .i64) .no), (2, .c (.int .i64) .no), (3, .c (.fix (.ptr 0 0)) .no), (7, .c (.int .i64) .no), (54, .c .bool .no)], [], [.cells [.c (.int .i64) .no, .c (.int .u64) .no, .c (.int .u64) .no, .c (.int .u64) .no, .c (.int .u64) .no, .c (.int .i64) .no, .c (.int .i64) .no, .c .sl .no]], []⟩⟩
noncomputable def c21_3 : Cut := ⟨[0, 1, 0, 1, 1, 1], 0, 0, [], ⟨spr 132 0 [(2, .c (.int .i64) .no), (3, .c (.fix (.ptr 0 0)) .no), (7, .c (.int .i64) .no), (54, .c .bool .no), (79, .c .bool .no)], [], [.cells [.c (.int .i64) .no, .c (.int .u64) .no, .c (.int .u64) .no, .c (.int .u64) .no, .c (.int .u64) .no, .c (.int .i64) .no, .c (.int .i64) .no, .c .sl .no]], []⟩⟩
noncomputable def c21_4 : Cut := ⟨[1, 1, 0, 1, 1, 1], 0, 0, [], ⟨spr 132 0 [(2, .c (.int .i64) .no), (3, .c (.fix (.ptr 0 0)) .no), (7, .c (.int .i64) .no), (54, .c .bool .no), (79, .c .bool .no)], [], [.cells [.c (.int .i64) .no, .c (.int .u64) .no, .c (.int .u64) .no, .c (.int .u64) .no, .c (.int .u64) .no, .c (.int .i64) .no, .c (.int .i64) .no, .c .sl .no]], []⟩⟩
noncomputable def c21_5 : Cut := ⟨[0, 1, 0, 1, 1, 1, 1], 0, 0, [], ⟨spr 132 0 [(2, .c (.int .i64) .no), (3, .c (.fix (.ptr 0 0)) .no), (7, .c (.int .i64) .no), (54, .c .bool .no), (79, .c .bool .no), (114, .c .bool .no)], [], [.cells [.c (.int .i64) .no, .c (.int .u64) .no, .c (.int .u64) .no, .c (.int .u64) .no, .c (.int .u64) .no, .c (.int .i64) .no, .c (.int .i64) .no, .c .sl .no]], []⟩⟩
noncomputable def c21_6 : Cut := ⟨[1, 1, 0, 1, 1, 1, 1], 0, 0, [], ⟨spr 132 0 [(2, .c (.int .i64) .no), (3, .c (.fix (.ptr 0 0)) .no), (7, .c (.int .i64) .no), (54, .c .bool .no), (79, .c .bool .no), (114, .c .bool .no)], [], [.cells [.c (.int .i64) .no, .c (.int .u64) .no, .c (.int .u64) .no, .c (.int .u64) .no, .c (.int .u64) .no, .c (.int .i64) .no, .c (.int .i64) .no, .c .sl .no]], []⟩⟩
noncomputable def c21_7 : Cut := ⟨[0, 1, 0, 1, 1, 1, 1, 1], 0, 0, [], ⟨spr 132 0 [(2, .c (.int .i64) .no), (3, .c (.fix (.ptr 0 0)) .no), (7, .c (.int .i64) .no), (8, .c (.int .i64) .no), (54, .c .bool .no), (79, .c .bool .no), (114, .c .bool .no)], [], [.cells [.c (.int .i64) .no, .c (.int .u64) .no, .c (.int .u64) .no, .c (.int .u64) .no, .c (.int .u64) .no, .c (.int .i64) .no, .c (.int .i64) .no, .c .sl .no]], []⟩⟩
noncomputable def o21x0 : OSh := ⟨.rets [.c .bool .no], [], []⟩
noncomputable def d21 : FnD := ⟨Tryd.f21, bodyOf Tryd.f21, .no, .plain, [c21_0, c21_1, c21_2, c21_3, c21_4, c21_5, c21_6, c21_7], [o21x0]⟩
noncomputable def c22_0 : Cut := ⟨[], 0, 0, [], ⟨spr 8 0 [(0, .agg [.int .i64, .int .u64, .int .u64, .int .u64, .int .u64, .int .i64, .int .i64, .sl] .no)], [], [], []⟩⟩
noncomputable def o22x0 : OSh := ⟨.rets [.c .str .no], [], []⟩
noncomputable def d22 : FnD := ⟨Tryd.f22, bodyOf Tryd.f22, .no, .plain, [c22_0], [o22x0]⟩
noncomputable def c23_0 : Cut := ⟨[], 0, 0, [], ⟨spr 8 0 [(0, .agg [.int .i64, .int .u64, .int .u64, .int .u64, .int .u64, .int .i64, .int .i64, .sl] .no)], [], [], []⟩⟩
noncomputable def o23x0 : OSh := ⟨.rets [.c (.int .i64) .no], [], []⟩
noncomputable def d23 : FnD := ⟨Tryd.f23, bodyOf Tryd.f23, .no, .plain, [c23_0], [o23x0]⟩
noncomputable def c24_0 : Cut := ⟨[], 0, 0, [], ⟨spr 5 0 [(0, .agg [.int .i64, .int .u64, .int .u64, .int .u64, .int .u64, .int .i64, .int .i64, .sl] .no)], [], [], []⟩⟩
noncomputable def o24x0 : OSh := ⟨.rets [.c .bool .no], [], []⟩
noncomputable def d24 : FnD := ⟨Tryd.f24, bodyOf Tryd.f24, .no, .plain, [c24_0], [o24x0]⟩
noncomputable def c25_0 : Cut := ⟨[], 0, 0, [], ⟨spr 140 0 [(0, .agg [.int .i64, .int .u64, .int .u64, .int .u64, .int .u64, .int .i64, .int .i64, .sl] .no)], [], [], []⟩⟩
noncomputable def c25_1 : Cut := ⟨[1, 1, 1, 1, 1, 1, 1, 0, 1, 0, 1], 0, 0, [], ⟨spr 140 0 [(1, .c (.fix (.ptr 0 0)) .no), (9, .c (.int .i64) .no), (10, .c .bool .no), (19, .c .bool .no), (21, .c .bool .no), (23, .c .bool .no)], [], [.cells [.c (.int .i64) .no, .c (.int .u64) .no, .c (.int .u64) .no, .c (.int .u64) .no, .c (.int .u64) .no, .c (.int .i64) .no, .c (.int .i64) .no, .c .sl .no]], []⟩⟩
noncomputable def c25_2 : Cut := ⟨[0, 1, 0, 1, 0, 1, 1, 1, 1, 1, 1, 1, 0, 1, 0, 1], 0, 0, [], ⟨spr 140 0 [(1, .c (.fix (.ptr 0 0)) .no), (3, .c .str .no), (4, .c (.int .i64) .no), (9, .c (.int .i64) .no), (10, .c .bool .no), (19, .c .bool .no), (21, .c .bool .no), (23, .c .bool .no)], [], [.cells [.c (.int .i64) .no, .c (.int .u64) .no, .c (.int .u64) .no, .c (.int .u64) .no, .c (.int .u64) .no, .c (.int .i64) .no, .c (.int .i64) .no, .c .sl .no]], []⟩⟩
noncomputable def c25_3 : Cut := ⟨[1, 1, 0, 1, 1, 1, 1, 1, 1, 1, 1, 1, 0, 1, 0, 1], 0, 0, [], ⟨spr 140 0 [(1, .c (.fix (.ptr 0 0)) .no), (6, .c .str .no), (10, .c .bool .no), (19, .c .bool .no), (21, .c .bool .no), (23, .c .bool .no), (67, .c .bool .no), (88, .c .bool .no)], [], [.cells [.c (.int .i64) .no, .c (.int .u64) .no, .c (.int .u64) .no, .c (.int .u64) .no, .c (.int .u64) .no, .c (.int .i64) .no, .c (.int .i64) .no, .c .sl .no]], []⟩⟩
noncomputable def c25_4 : Cut := ⟨[1, 1, 0, 0, 1, 0, 0, 1, 0, 1, 0, 1, 1, 1, 1, 1, 1, 1, 0, 1, 0, 1], 0, 0, [], ⟨spr 140 0 [(1, .c (.fix (.ptr 0 0)) .no), (3, .c .str .no), (4, .c (.int .i64) .no), (5, .c .str .no), (9, .c (.int .i64) .no), (10, .c .bool .no), (19, .c .bool .no), (21, .c .bool .no), (23, .c .bool .no), (30, .c .bool .no), (50, .c .bool .no)], [], [.cells [.c (.int .i64) .no, .c (.int .u64) .no, .c (.int .u64) .no, .c (.int .u64) .no, .c (.int .u64) .no, .c (.int .i64) .no, .c (.int .i64) .no, .c .sl .no]], []⟩⟩
noncomputable def o25x0 : OSh := ⟨.rets [.c .str .no], [], []⟩
noncomputable def d25 : FnD := ⟨Tryd.f25, bodyOf Tryd.f25, .no, .plain, [c25_0, c25_1, c25_2, c25_3, c25_4], [o25x0]⟩
noncomputable def c26_0 : Cut := ⟨[], 0, 0, [], ⟨spr 48 0 [(0, .agg [.int .i64, .int .u64, .int .u64, .int .u64, .int .u64, .int .i64, .int .i64, .sl] .no)], [], [], []⟩⟩
noncomputable def c26_1 : Cut := ⟨[0, 1, 0, 1, 1, 1, 1], 0, 0, [], ⟨spr 48 0 [(1, .c (.fix (.ptr 0 0)) .no), (3, .c (.int .i64) .no), (4, .c (.int .i64) .no), (8, .c .bool .no), (11, .c .bool .no)], [], [.cells [.c (.int .i64) .no, .c (.int .u64) .no, .c (.int .u64) .no, .c (.int .u64) .no, .c (.int .u64) .no, .c (.int .i64) .no, .c (.int .i64) .no, .c .sl .no]], []⟩⟩
noncomputable def o26x0 : OSh := ⟨.rets [.c (.int .i64) .no], [], []⟩
noncomputable def d26 : FnD := ⟨Tryd.f26, bodyOf Tryd.f26, .no, .plain, [c26_0, c26_1], [o26x0]⟩
noncomputable def c27_0 : Cut := ⟨[], 0, 0, [], ⟨spr 16 0 [(0, .c .str .no)], [], [], []⟩⟩
noncomputable def o27x0 : OSh := ⟨.rets [.agg [.int .i64, .int .u64, .int .u64, .int .u64, .int .u64, .int .i64, .int .i64, .sl] .no, .c (.int .i64) .no, .c (.int .i64) .no], [], []⟩
noncomputable def d27 : FnD := ⟨Tryd.f27, bodyOf Tryd.f27, .no, .plain, [c27_0], [o27x0]⟩
noncomputable def c28_0 : Cut := ⟨[], 0, 0, [], ⟨spr 57 0 [(0, .agg [.int .i64, .int .u64, .int .u64, .int .u64, .int .u64, .int .i64, .int .i64, .sl] .no)], [], [], []⟩⟩
noncomputable def c28_1 : Cut := ⟨[0, 1, 0, 1, 1], 0, 0, [], ⟨spr 57 0 [(1, .c (.fix (.ptr 0 0)) .no), (3, .c (.int .i64) .no), (4, .c (.int .i64) .no)], [], [.cells [.c (.int .i64) .no, .c (.int .u64) .no, .c (.int .u64) .no, .c (.int .u64) .no, .c (.int .u64) .no, .c (.int .i64) .no, .c (.int .i64) .no, .c .sl .no]], []⟩⟩
noncomputable def o28x0 : OSh := ⟨.rets [.c (.int .i64) .no], [], []⟩
noncomputable def d28 : FnD := ⟨Tryd.f28, bodyOf Tryd.f28, .no, .plain, [c28_0, c28_1], [o28x0]⟩
noncomputable def c29_0 : Cut := ⟨[], 0, 0, [], ⟨spr 60 0 [(0, .agg [.int .i64, .int .u64, .int .u64, .int .u64, .int .u64, .int .i64, .int .i64, .sl] .no), (1, .agg [.int .i64, .int .u64, .int .u64, .int .u64, .int .u64, .int .i64, .int .i64, .sl] .no)], [], [], []⟩⟩
noncomputable def c29_1 : Cut := ⟨[0, 1, 0, 1, 1], 0, 0, [], ⟨spr 60 0 [(2, .c (.fix (.ptr 0 0)) .no), (3, .c (.fix (.ptr 1 0)) .no), (5, .c (.int .i64) .no), (40, .c .bool .no)], [], [.cells [.c (.int .i64) .no, .c (.int .u64) .no, .c (.int .u64) .no, .c (.int .u64) .no, .c (.int .u64) .no, .c (.int .i64) .no, .c (.int .i64) .no, .c .sl .no], .cells [.c (.int .i64) .no, .c (.int .u64) .no, .c (.int .u64) .no, .c (.int .u64) .no, .c (.int .u64) .no, .c (.int .i64) .no, .c (.int .i64) .no, .c .sl .no]], []⟩⟩
noncomputable def o29x0 : OSh := ⟨.rets [.c .bool .no], [], []⟩
noncomputable def d29 : FnD := ⟨Tryd.f29, bodyOf Tryd.f29, .no, .plain, [c29_0, c29_1], [o29x0]⟩
noncomputable def c30_0 : Cut := ⟨[], 0, 0, [], ⟨spr 21 0 [(0, .c .str .no)], [], [], []⟩⟩
noncomputable def c30_1 : Cut := ⟨[0, 1, 0, 1, 1], 0, 0, [], ⟨spr 21 0 [(3, .c (.fix (.ptr 0 0)) .no), (7, .c (.slr 1 0) .no), (8, .c (.int .i64) .no), (9, .c (.int .i64) .no)], [], [.cells [.c (.fix (.bself 59 0)) .no, .c (.buf 5) (.tok 0)], .row], [.len 3]⟩⟩
noncomputable def o30x0 : OSh := ⟨.rets [.c .str .no], [], []⟩
noncomputable def d30 : FnD := ⟨Tryd.f30, bodyOf Tryd.f30, .no, .plain, [c30_0, c30_1], [o30x0]⟩
noncomputable def c42_0 : Cut := ⟨[], 1, 1, [], ⟨spr 17 0 [(0, .c (.fix (.ptr 0 0)) .no), (1, .c (.int .u8) .no)], [], [.cells [.c (.fix (.bself 59 0)) .no, .c (.buf 5) (.tok 0)]], [.len 1]⟩⟩
noncomputable def o42x0 : OSh := ⟨.rets [.c (.fix .nili) .no], [.cells [.c (.fix (.bself 59 0)) .no, .c (.buf 5) (.tok 0)]], [.len 0]⟩
noncomputable def d42 : FnD := ⟨Tryd.f42, bodyOf Tryd.f42, .no, .plain, [c42_0], [o42x0]⟩
noncomputable def c44_0 : Cut := ⟨[], 1, 1, [], ⟨spr 14 0 [(0, .c (.fix (.ptr 0 0)) .no)], [], [.cells [.c (.fix (.bself 59 0)) .no, .c (.buf 5) (.tok 0)]], [.len 0]⟩⟩
noncomputable def o44x0 : OSh := ⟨.rets [.c .str .no], [.cells [.c (.fix (.bself 59 0)) .no, .c (.buf 5) (.tok 0)]], [.len 1]⟩
noncomputable def d44 : FnD := ⟨Tryd.f44, bodyOf Tryd.f44, .no, .plain, [c44_0], [o44x0]⟩
noncomputable def c45_0 : Cut := ⟨[], 0, 0, [], ⟨spr 43 0 [(0, .agg [.int .i64, .int .u64, .int .u64, .int .u64, .int .u64, .int .i64, .int .i64, .sl] .no), (1, .c (.int .i64) .no), (2, .c (.int .i64) .no)], [], [], []⟩⟩
noncomputable def c45_1 : Cut := ⟨[0, 1, 0, 1, 1], 0, 0, [], ⟨spr 43 0 [(1, .c (.int .i64) .no), (2, .c (.int .i64) .no), (3, .c (.fix (.ptr 0 0)) .no), (7, .c (.int .i64) .no), (8, .c (.int .i64) .no)], [], [.cells [.c (.int .i64) .no, .c (.int .u64) .no, .c (.int .u64) .no, .c (.int .u64) .no, .c (.int .u64) .no, .c (.int .i64) .no, .c (.int .i64) .no, .c .sl .no]], []⟩⟩
noncomputable def o45x0 : OSh := ⟨.rets [.c (.int .i64) .no], [], []⟩
noncomputable def d45 : FnD := ⟨Tryd.f45, bodyOf Tryd.f45, .no, .plain, [c45_0, c45_1], [o45x0]⟩
noncomputable def c46_0 : Cut := ⟨[], 0, 0, [], ⟨spr 106 0 [(0, .agg [.int .i64, .int .u64, .int .u64, .int .u64, .int .u64, .int .i64, .int .i64, .sl] .no), (1, .c (.int .i64) .no), (2, .c (.int .i64) .no)], [], [], []⟩⟩
noncomputable def c46_1 : Cut := ⟨[1, 1, 1, 0, 1, 0, 1, 1], 0, 0, [], ⟨spr 106 0 [(1, .c (.int .i64) .no), (3, .c (.fix (.ptr 0 0)) .no), (5, .c (.fix (.ptr 1 0)) .no), (34, .c .bool .no), (36, .c (.int .i64) .no), (37, .c .bool .no), (47, .c .bool .no)], [], [.cells [.c (.int .i64) .no, .c (.int .u64) .no, .c (.int .u64) .no, .c (.int .u64) .no, .c (.int .u64) .no, .c (.int .i64) .no, .c (.int .i64) .no, .c .sl .no], .cells [.c (.int .i64) .no]], []⟩⟩
noncomputable def c46_2 : Cut := ⟨[1, 1, 1, 1, 1, 0, 1, 0, 1, 1], 0, 0, [], ⟨spr 106 0 [(1, .c (.int .i64) .no), (3, .c (.fix (.ptr 0 0)) .no), (5, .c (.fix (.ptr 1 0)) .no), (34, .c .bool .no), (36, .c (.int .i64) .no), (37, .c .bool .no), (47, .c .bool .no), (55, .c .bool .no)], [], [.cells [.c (.int .i64) .no, .c (.int .u64) .no, .c (.int .u64) .no, .c (.int .u64) .no, .c (.int .u64) .no, .c (.int .i64) .no, .c (.int .i64) .no, .c .sl .no], .cells [.c (.int .i64) .no]], []⟩⟩
noncomputable def o46x0 : OSh := ⟨.rets [.c .bool .no], [], []⟩
noncomputable def d46 : FnD := ⟨Tryd.f46, bodyOf Tryd.f46, .no, .plain, [c46_0, c46_1, c46_2], [o46x0]⟩
noncomputable def c47_0 : Cut := ⟨[], 0, 0, [], ⟨spr 65 0 [(0, .agg [.int .i64, .int .u64, .int .u64, .int .u64, .int .u64, .int .i64, .int .i64, .sl] .no)], [], [], []⟩⟩
noncomputable def c47_1 : Cut := ⟨[0, 1, 0, 1, 1, 1], 0, 0, [3], ⟨spr 65 0 [(1, .c (.fix (.ptr 0 0)) .no), (3, .c .sl (.tok 0)), (8, .c .bool .no), (18, .c .bool .no), (20, .c .bool .no), (22, .c .bool .no), (37, .c .sl .no), (38, .c (.int .i64) .no), (39, .c (.int .i64) .no)], [], [.cells [.c (.int .i64) .no, .c (.int .u64) .no, .c (.int .u64) .no, .c (.int .u64) .no, .c (.int .u64) .no, .c (.int .i64) .no, .c (.int .i64) .no, .c .sl .no]], [.len 0]⟩⟩
noncomputable def o47x0 : OSh := ⟨.rets [.c .str .no], [], []⟩
noncomputable def d47 : FnD := ⟨Tryd.f47, bodyOf Tryd.f47, .no, .plain, [c47_0, c47_1], [o47x0]⟩
noncomputable def c48_0 : Cut := ⟨[], 0, 0, [], ⟨spr 56 0 [(0, .agg [.int .i64, .int .u64, .int .u64, .int .u64, .int .u64, .int .i64, .int .i64, .sl] .no)], [], [], []⟩⟩
noncomputable def c48_1 : Cut := ⟨[0, 1, 0, 1, 1, 1, 1, 1, 0, 1, 0, 1, 1], 0, 0, [], ⟨spr 56 0 [(3, .c (.int .i64) .no), (9, .c (.int .i64) .no), (10, .c .bool .no), (12, .c .bool .no), (22, .c .bool .no), (25, .c .sl .no), (26, .c (.int .i64) .no), (27, .c (.int .i64) .no)], [], [.cells [.c (.int .i64) .no, .c (.int .u64) .no, .c (.int .u64) .no, .c (.int .u64) .no, .c (.int .u64) .no, .c (.int .i64) .no, .c (.int .i64) .no, .c .sl .no]], []⟩⟩
noncomputable def c48_2 : Cut := ⟨[0, 1, 1, 0, 1, 1, 1, 1, 1, 1, 1, 0, 1, 0, 1, 1], 0, 0, [], ⟨spr 56 0 [(3, .c (.int .i64) .no), (10, .c .bool .no), (12, .c .bool .no), (22, .c .bool .no), (36, .c .bool .no), (44, .c .sl .no), (45, .c (.int .i64) .no), (46, .c (.int .i64) .no)], [], [.cells [.c (.int .i64) .no, .c (.int .u64) .no, .c (.int .u64) .no, .c (.int .u64) .no, .c (.int .u64) .no, .c (.int .i64) .no, .c (.int .i64) .no, .c .sl .no]], []⟩⟩
noncomputable def o48x0 : OSh := ⟨.rets [.c (.int .i64) .no], [], []⟩
noncomputable def d48 : FnD := ⟨Tryd.f48, bodyOf Tryd.f48, .no, .plain, [c48_0, c48_1, c48_2], [o48x0]⟩
noncomputable def c49_0 : Cut := ⟨[], 0, 0, [], ⟨spr 2 0 [], [], [], []⟩⟩
noncomputable def o49x0 : OSh := ⟨.rets [.agg [.int .u64, .int .u64, .int .u64, .int .u64] .no], [], []⟩
noncomputable def d49 : FnD := ⟨Tryd.f49, bodyOf Tryd.f49, .no, .plain, [c49_0], [o49x0]⟩
noncomputable def c50_0 : Cut := ⟨[], 0, 0, [], ⟨spr 57 0 [(0, .agg [.int .u64, .int .u64, .int .u64, .int .u64] .no)], [], [], []⟩⟩
noncomputable def c50_1 : Cut := ⟨[1, 1, 1, 1], 0, 0, [4], ⟨spr 57 0 [(3, .c (.fix (.ptr 1 0)) .no), (4, .c .sl (.tok 0)), (5, .c .bool .no), (13, .c .bool .no)], [], [.cells [.c (.int .u64) .no, .c (.int .u64) .no, .c (.int .u64) .no, .c (.int .u64) .no], .row], [.len 0]⟩⟩
noncomputable def c50_2 : Cut := ⟨[0, 1, 0, 1, 1, 1, 1], 0, 0, [], ⟨spr 57 0 [(3, .c (.fix (.ptr 1 0)) .no), (4, .c .sl (.tok 0)), (5, .c .bool .no), (6, .c (.int .i64) .no), (13, .c .bool .no)], [], [.cells [.c (.int .u64) .no, .c (.int .u64) .no, .c (.int .u64) .no, .c (.int .u64) .no], .row], [.len 0]⟩⟩
noncomputable def c50_3 : Cut := ⟨[0, 1, 0, 0, 1, 0, 0, 1, 0, 1, 1, 1, 1], 0, 0, [], ⟨spr 57 0 [(3, .c (.fix (.ptr 1 0)) .no), (4, .c .sl (.tok 0)), (5, .c .bool .no), (6, .c (.int .i64) .no), (13, .c .bool .no), (18, .c .bool .no), (26, .c .bool .no)], [], [.cells [.c (.int .u64) .no, .c (.int .u64) .no, .c (.int .u64) .no, .c (.int .u64) .no], .row], [.len 0]⟩⟩
noncomputable def c50_4 : Cut := ⟨[1, 1, 0, 0, 1, 0, 1, 1, 1, 1], 0, 0, [], ⟨spr 57 0 [(3, .c (.fix (.ptr 1 0)) .no), (4, .c .sl (.tok 0)), (5, .c .bool .no), (6, .c (.int .i64) .no), (13, .c .bool .no), (18, .c .bool .no), (26, .c .bool .no)], [], [.cells [.c (.int .u64) .no, .c (.int .u64) .no, .c (.int .u64) .no, .c (.int .u64) .no], .row], [.len 0]⟩⟩
noncomputable def c50_5 : Cut := ⟨[0, 1, 0, 0, 1, 0, 0, 1, 0, 0, 1, 0, 1, 1, 1, 1], 0, 0, [], ⟨spr 57 0 [(3, .c (.fix (.ptr 1 0)) .no), (4, .c .sl (.tok 0)), (5, .c .bool .no), (6, .c (.int .i64) .no), (13, .c .bool .no), (18, .c .bool .no), (26, .c .bool .no), (44, .c .bool .no)], [], [.cells [.c (.int .u64) .no, .c (.int .u64) .no, .c (.int .u64) .no, .c (.int .u64) .no], .row], [.len 0]⟩⟩
noncomputable def c50_6 : Cut := ⟨[1, 0, 1, 0, 0, 1, 0, 0, 1, 0, 1, 1, 1, 1], 0, 0, [], ⟨spr 57 0 [(3, .c (.fix (.ptr 1 0)) .no), (4, .c .sl (.tok 0)), (5, .c .bool .no), (6, .c (.int .i64) .no), (13, .c .bool .no), (18, .c .bool .no), (26, .c .bool .no), (44, .c .bool .no)], [], [.cells [.c (.int .u64) .no, .c (.int .u64) .no, .c (.int .u64) .no, .c (.int .u64) .no], .row], [.len 0]⟩⟩
noncomputable def o50x0 : OSh := ⟨.rets [.c .str .no], [], []⟩
noncomputable def d50 : FnD := ⟨Tryd.f50, bodyOf Tryd.f50, .no, .plain, [c50_0, c50_1, c50_2, c50_3, c50_4, c50_5, c50_6], [o50x0]⟩
noncomputable def c51_0 : Cut := ⟨[], 0, 0, [], ⟨spr 17 0 [(0, .c (.int .i64) .no)], [], [], []⟩⟩
noncomputable def o51x0 : OSh := ⟨.rets [.c .str .no], [], []⟩
noncomputable def d51 : FnD := ⟨Tryd.f51, bodyOf Tryd.f51, .no, .plain, [c51_0], [o51x0]⟩
noncomputable def c53_0 : Cut := ⟨[], 1, 0, [], ⟨spr 20 0 [(0, .c (.fix (.ptr 0 0)) .no), (1, .c (.int .i64) .no)], [], [.cells [.c .str .no, .c (.int .i64) .no]], []⟩⟩
noncomputable def c53_1 : Cut := ⟨[0, 0, 1, 1], 1, 0, [5], ⟨spr 20 0 [(0, .c (.fix (.ptr 0 0)) .no), (1, .c (.int .i64) .no), (4, .c (.fix (.ptr 1 0)) .no), (5, .c .sl (.tok 0))], [], [.cells [.c .str .no, .c (.int .i64) .no], .cells [.c (.int .i64) .no, .c (.int .u64) .no, .c (.int .u64) .no, .c (.int .u64) .no, .c (.int .u64) .no, .c (.int .i64) .no, .c (.int .i64) .no, .c .sl .full]], [.len 1]⟩⟩
noncomputable def o53x0 : OSh := ⟨.rets [.agg [.int .i64, .int .u64, .int .u64, .int .u64, .int .u64, .int .i64, .int .i64, .sl] .no], [.cells [.c .str .no, .c (.int .i64) .no]], []⟩
noncomputable def o53x1 : OSh := ⟨.panic 71 [.int .i64, .int .i64], [.cells [.c .str .no, .c (.int .i64) .no]], []⟩
noncomputable def d53 : FnD := ⟨Tryd.f53, bodyOf Tryd.f53, .no, .plain, [c53_0, c53_1], [o53x0, o53x1]⟩
noncomputable def c54_0 : Cut := ⟨[], 0, 0, [], ⟨spr 8 0 [(0, .c .str .no), (1, .c (.int .u8) .no)], [], [], []⟩⟩
noncomputable def o54x0 : OSh := ⟨.rets [.c (.int .i64) .no], [], []⟩
noncomputable def d54 : FnD := ⟨Tryd.f54, bodyOf Tryd.f54, .no, .plain, [c54_0], [o54x0]⟩
noncomputable def c55_0 : Cut := ⟨[], 0, 0, [], ⟨spr 8 0 [(0, .c .str .no), (1, .c .str .no)], [], [], []⟩⟩
noncomputable def o55x0 : OSh := ⟨.rets [.c .bool .no], [], []⟩
noncomputable def d55 : FnD := ⟨Tryd.f55, bodyOf Tryd.f55, .no, .plain, [c55_0], [o55x0]⟩
noncomputable def c67_0 : Cut := ⟨[], 2, 0, [], ⟨spr 9 0 [(0, .c .sl .no), (1, .c (.fix (.fn 68 [] [.ptr 0 0, .ptr 1 0])) .no)], [], [.cells [.c (.int .i64) .no, .c (.int .u64) .no, .c (.int .u64) .no, .c (.int .u64) .no, .c (.int .u64) .no, .c (.int .i64) .no, .c (.int .i64) .no, .c .sl .no], .cells [.c (.int .i64) .no]], []⟩⟩
noncomputable def o67x0 : OSh := ⟨.rets [.c .bool .no], [.cells [.c (.int .i64) .no, .c (.int .u64) .no, .c (.int .u64) .no, .c (.int .u64) .no, .c (.int .u64) .no, .c (.int .i64) .no, .c (.int .i64) .no, .c .sl .no], .cells [.c (.int .i64) .no]], []⟩
noncomputable def d67 : FnD := ⟨Tryd.f67, bodyOf Tryd.f67, .no, .plain, [c67_0], [o67x0]⟩
noncomputable def c68_0 : Cut := ⟨[], 2, 0, [], ⟨spr 12 0 [(0, .agg [.int .i64, .int .u64, .int .u64, .int .u64, .int .u64, .int .i64, .int .i64, .sl] .no), (1, .c (.fix (.ptr 0 0)) .no), (2, .c (.fix (.ptr 1 0)) .no)], [], [.cells [.c (.int .i64) .no, .c (.int .u64) .no, .c (.int .u64) .no, .c (.int .u64) .no, .c (.int .u64) .no, .c (.int .i64) .no, .c (.int .i64) .no, .c .sl .no], .cells [.c (.int .i64) .no]], []⟩⟩
noncomputable def o68x0 : OSh := ⟨.rets [.c .bool .no], [.cells [.c (.int .i64) .no, .c (.int .u64) .no, .c (.int .u64) .no, .c (.int .u64) .no, .c (.int .u64) .no, .c (.int .i64) .no, .c (.int .i64) .no, .c .sl .no], .cells [.c (.int .i64) .no]], []⟩
noncomputable def d68 : FnD := ⟨Tryd.f68, bodyOf Tryd.f68, .no, .plain, [c68_0], [o68x0]⟩
noncomputable def c69_0 : Cut := ⟨[], 0, 0, [], ⟨spr 5 0 [(0, .agg [.int .u64, .int .u64, .int .u64, .int .u64] .no)], [], [], []⟩⟩
noncomputable def o69x0 : OSh := ⟨.rets [.agg [.int .u64, .int .u64, .int .u64, .int .u64] .no], [], []⟩
noncomputable def d69 : FnD := ⟨Tryd.f69, bodyOf Tryd.f69, .no, .plain, [c69_0], [o69x0]⟩
noncomputable def c70_0 : Cut := ⟨[], 0, 0, [], ⟨spr 31 0 [(0, .agg [.int .u64, .int .u64, .int .u64, .int .u64] .no)], [], [], []⟩⟩
noncomputable def c70_1 : Cut := ⟨[0, 1, 0, 1, 1, 1, 1], 0, 0, [], ⟨spr 31 0 [(1, .c (.fix (.ptr 0 0)) .no), (3, .c (.fix (.ptr 1 0)) .no), (8, .c .bool .no), (12, .c (.int .i64) .no)], [], [.cells [.c (.int .u64) .no, .c (.int .u64) .no, .c (.int .u64) .no, .c (.int .u64) .no], .cells [.c (.fix (.bself 59 1)) .no, .c (.buf 5) (.tok 0)]], [.len 6]⟩⟩
noncomputable def o70x0 : OSh := ⟨.rets [.c .str .no], [], []⟩
noncomputable def d70 : FnD := ⟨Tryd.f70, bodyOf Tryd.f70, .no, .plain, [c70_0, c70_1], [o70x0]⟩
noncomputable def c71_0 : Cut := ⟨[], 0, 0, [], ⟨spr 15 0 [(0, .agg [.int .i64, .int .u64, .int .u64, .int .u64, .int .u64, .int .i64, .int .i64, .sl] .no), (1, .c .sl .no)], [], [], []⟩⟩
noncomputable def o71x0 : OSh := ⟨.rets [.c .str .no], [], []⟩
noncomputable def d71 : FnD := ⟨Tryd.f71, bodyOf Tryd.f71, .no, .plain, [c71_0], [o71x0]⟩
noncomputable def c72_0 : Cut := ⟨[], 0, 0, [], ⟨spr 49 0 [(0, .c (.int .i64) .no), (1, .c (.int .i64) .no)], [], [], []⟩⟩
noncomputable def c72_1 : Cut := ⟨[1, 1, 0, 0, 1], 0, 0, [], ⟨spr 49 0 [(0, .c (.int .i64) .no), (1, .c (.int .i64) .no), (5, .c .bool .no)], [], [], []⟩⟩
noncomputable def c72_2 : Cut := ⟨[1, 1, 1, 1, 0, 0, 1], 0, 0, [], ⟨spr 49 0 [(0, .c (.int .i64) .no), (1, .c (.int .i64) .no), (5, .c .bool .no), (12, .c .bool .no)], [], [], []⟩⟩
noncomputable def c72_3 : Cut := ⟨[1, 1, 1, 1, 1, 1, 0, 0, 1], 0, 0, [], ⟨spr 49 0 [(0, .c (.int .i64) .no), (1, .c (.int .i64) .no), (5, .c .bool .no), (12, .c .bool .no), (19, .c .bool .no)], [], [], []⟩⟩
noncomputable def o72x0 : OSh := ⟨.rets [.c .str .no], [], []⟩
noncomputable def d72 : FnD := ⟨Tryd.f72, bodyOf Tryd.f72, .no, .plain, [c72_0, c72_1, c72_2, c72_3], [o72x0]⟩
noncomputable def c74_0 : Cut := ⟨[], 0, 0, [], ⟨spr 23 0 [(0, .agg [.int .u64, .int .u64, .int .u64, .int .u64] .no)], [], [], []⟩⟩
noncomputable def c74_1 : Cut := ⟨[0, 1, 0, 1, 1], 0, 0, [], ⟨spr 23 0 [(1, .c (.fix (.ptr 0 0)) .no), (2, .c (.fix (.ptr 1 0)) .no), (3, .c (.fix (.ptr 2 0)) .no), (4, .c (.int .i64) .no)], [], [.cells [.c (.int .u64) .no, .c (.int .u64) .no, .c (.int .u64) .no, .c (.int .u64) .no], .row, .row], []⟩⟩
noncomputable def o74x0 : OSh := ⟨.rets [.c .any .no], [], []⟩
noncomputable def d74 : FnD := ⟨Tryd.f74, bodyOf Tryd.f74, .big, .great, [c74_0, c74_1], [o74x0]⟩
noncomputable def c75_0 : Cut := ⟨[], 1, 0, [], ⟨spr 35 0 [(0, .c (.fix (.ptr 0 0)) .no), (1, .c (.int .i64) .no)], [], [.cells [.c .str .no, .c (.int .i64) .no]], []⟩⟩
noncomputable def c75_1 : Cut := ⟨[0, 1, 1], 1, 0, [5], ⟨spr 35 0 [(0, .c (.fix (.ptr 0 0)) .no), (1, .c (.int .i64) .no), (4, .c (.fix (.ptr 1 0)) .no), (5, .c .sl (.tok 0))], [], [.cells [.c .str .no, .c (.int .i64) .no], .cells [.c (.int .i64) .no, .c (.int .u64) .no, .c (.int .u64) .no, .c (.int .u64) .no, .c (.int .u64) .no, .c (.int .i64) .no, .c (.int .i64) .no, .c .sl .full]], [.len 1]⟩⟩
noncomputable def o75x0 : OSh := ⟨.rets [.agg [.int .i64, .int .u64, .int .u64, .int .u64, .int .u64, .int .i64, .int .i64, .sl] .no], [.cells [.c .str .no, .c (.int .i64) .no]], []⟩
noncomputable def o75x1 : OSh := ⟨.panic 71 [.int .i64, .int .i64], [.cells [.c .str .no, .c (.int .i64) .no]], []⟩
noncomputable def d75 : FnD := ⟨Tryd.f75, bodyOf Tryd.f75, .no, .plain, [c75_0, c75_1], [o75x0, o75x1]⟩
noncomputable def c76_0 : Cut := ⟨[], 1, 0, [], ⟨spr 27 0 [(0, .c (.fix (.ptr 0 0)) .no), (1, .c (.int .u8) .no)], [], [.cells [.c .str .no, .c (.int .i64) .no]], []⟩⟩
noncomputable def o76x0 : OSh := ⟨.rets [.c .bool .no], [.cells [.c .str .no, .c (.int .i64) .no]], []⟩
noncomputable def d76 : FnD := ⟨Tryd.f76, bodyOf Tryd.f76, .no, .plain, [c76_0], [o76x0]⟩
noncomputable def c77_0 : Cut := ⟨[], 0, 0, [], ⟨spr 53 0 [(0, .c (.int .i64) .no), (1, .c .sl .no)], [], [], []⟩⟩
noncomputable def c77_1 : Cut := ⟨[0, 1, 0, 1, 1, 1], 0, 0, [5], ⟨spr 53 0 [(0, .c (.int .i64) .no), (4, .c (.fix (.ptr 0 0)) .no), (5, .c .sl (.tok 0)), (10, .c .bool .no), (13, .c .bool .no), (18, .c .sl .no), (19, .c (.int .i64) .no), (20, .c (.int .i64) .no)], [], [.cells [.c (.int .i64) .no, .c (.int .u64) .no, .c (.int .u64) .no, .c (.int .u64) .no, .c (.int .u64) .no, .c (.int .i64) .no, .c (.int .i64) .no, .c .sl .full]], [.len 1]⟩⟩
noncomputable def o77x0 : OSh := ⟨.rets [.agg [.int .i64, .int .u64, .int .u64, .int .u64, .int .u64, .int .i64, .int .i64, .sl] .no], [], []⟩
noncomputable def d77 : FnD := ⟨Tryd.f77, bodyOf Tryd.f77, .no, .plain, [c77_0, c77_1], [o77x0]⟩
noncomputable def c78_0 : Cut := ⟨[], 0, 0, [], ⟨spr 8 0 [(0, .c .str .no), (1, .c (.int .u8) .no)], [], [], []⟩⟩
noncomputable def o78x0 : OSh := ⟨.rets [.c (.int .i64) .no], [], []⟩
noncomputable def d78 : FnD := ⟨Tryd.f78, bodyOf Tryd.f78, .no, .plain, [c78_0], [o78x0]⟩
noncomputable def c79_0 : Cut := ⟨[], 0, 0, [], ⟨spr 18 0 [(0, .c .str .no), (1, .c .str .no)], [], [], []⟩⟩
noncomputable def o79x0 : OSh := ⟨.rets [.c .bool .no], [], []⟩
noncomputable def d79 : FnD := ⟨Tryd.f79, bodyOf Tryd.f79, .no, .plain, [c79_0], [o79x0]⟩
noncomputable def c85_0 : Cut := ⟨[], 2, 0, [], ⟨spr 19 0 [(0, .c .sl .no), (1, .c (.fix (.fn 68 [] [.ptr 0 0, .ptr 1 0])) .no)], [], [.cells [.c (.int .i64) .no, .c (.int .u64) .no, .c (.int .u64) .no, .c (.int .u64) .no, .c (.int .u64) .no, .c (.int .i64) .no, .c (.int .i64) .no, .c .sl .no], .cells [.c (.int .i64) .no]], []⟩⟩
noncomputable def c85_1 : Cut := ⟨[0, 1, 0, 1], 2, 0, [], ⟨spr 19 0 [(0, .c .sl .no), (1, .c (.fix (.fn 68 [] [(.ptr 0 0), (.ptr 1 0)])) .no), (7, .c (.int .i64) .no), (8, .c (.int .i64) .no)], [], [.cells [.c (.int .i64) .no, .c (.int .u64) .no, .c (.int .u64) .no, .c (.int .u64) .no, .c (.int .u64) .no, .c (.int .i64) .no, .c (.int .i64) .no, .c .sl .no], .cells [.c (.int .i64) .no]], []⟩⟩
noncomputable def o85x0 : OSh := ⟨.rets [.c (.int .i64) .no], [.cells [.c (.int .i64) .no, .c (.int .u64) .no, .c (.int .u64) .no, .c (.int .u64) .no, .c (.int .u64) .no, .c (.int .i64) .no, .c (.int .i64) .no, .c .sl .no], .cells [.c (.int .i64) .no]], []⟩
noncomputable def d85 : FnD := ⟨Tryd.f85, bodyOf Tryd.f85, .no, .plain, [c85_0, c85_1], [o85x0]⟩
noncomputable def c86_0 : Cut := ⟨[], 0, 0, [], ⟨spr 15 0 [(0, .agg [.int .u64, .int .u64, .int .u64, .int .u64] .no)], [], [], []⟩⟩
noncomputable def c86_1 : Cut := ⟨[0, 1, 0, 1], 0, 0, [], ⟨spr 15 0 [(1, .c (.fix (.ptr 0 0)) .no), (2, .c (.fix (.ptr 1 0)) .no), (4, .c (.int .i64) .no)], [], [.cells [.c (.int .u64) .no, .c (.int .u64) .no, .c (.int .u64) .no, .c (.int .u64) .no], .cells [.c (.int .u64) .no, .c (.int .u64) .no, .c (.int .u64) .no, .c (.int .u64) .no]], []⟩⟩
noncomputable def o86x0 : OSh := ⟨.rets [.agg [.int .u64, .int .u64, .int .u64, .int .u64] .no], [], []⟩
noncomputable def d86 : FnD := ⟨Tryd.f86, bodyOf Tryd.f86, .no, .plain, [c86_0, c86_1], [o86x0]⟩
noncomputable def c87_0 : Cut := ⟨[], 0, 0, [], ⟨spr 14 0 [(0, .agg [.int .u64, .int .u64, .int .u64, .int .u64] .no), (1, .c (.int .u8) .no)], [], [], []⟩⟩
noncomputable def o87x0 : OSh := ⟨.rets [.c .bool .no], [], []⟩
noncomputable def d87 : FnD := ⟨Tryd.f87, bodyOf Tryd.f87, .no, .plain, [c87_0], [o87x0]⟩
noncomputable def c88_0 : Cut := ⟨[], 0, 0, [], ⟨spr 9 0 [(0, .c .sl .no), (1, .c (.int .i64) .no)], [], [], []⟩⟩
noncomputable def o88x0 : OSh := ⟨.rets [.c .bool .no], [], []⟩
noncomputable def d88 : FnD := ⟨Tryd.f88, bodyOf Tryd.f88, .no, .plain, [c88_0], [o88x0]⟩
noncomputable def c89_0 : Cut := ⟨[], 0, 0, [], ⟨spr 5 0 [(0, .c (.int .i64) .no)], [], [], []⟩⟩
noncomputable def o89x0 : OSh := ⟨.rets [.c .str .no], [], []⟩
noncomputable def d89 : FnD := ⟨Tryd.f89, bodyOf Tryd.f89, .no, .plain, [c89_0], [o89x0]⟩
noncomputable def c91_0 : Cut := ⟨[], 1, 0, [], ⟨spr 23 0 [(0, .c (.fix (.ptr 0 0)) .no)], [], [.cells [.c .str .no, .c (.int .i64) .no]], []⟩⟩
noncomputable def o91x0 : OSh := ⟨.rets [.c (.int .u8) .no, .c .bool .no], [.cells [.c .str .no, .c (.int .i64) .no]], []⟩
noncomputable def d91 : FnD := ⟨Tryd.f91, bodyOf Tryd.f91, .no, .plain, [c91_0], [o91x0]⟩
noncomputable def c92_0 : Cut := ⟨[], 1, 0, [], ⟨spr 40 0 [(0, .c (.fix (.ptr 0 0)) .no), (1, .c (.int .i64) .no)], [], [.cells [.c .str .no, .c (.int .i64) .no]], []⟩⟩
noncomputable def c92_1 : Cut := ⟨[0, 1, 1], 1, 0, [], ⟨spr 40 0 [(0, .c (.fix (.ptr 0 0)) .no), (4, .c (.fix (.ptr 1 0)) .no), (5, .c (.fix (.ptr 2 0)) .no)], [], [.cells [.c .str .no, .c (.int .i64) .no], .cells [.c (.int .i64) .no, .c (.int .u64) .no, .c (.int .u64) .no, .c (.int .u64) .no, .c (.int .u64) .no, .c (.int .i64) .no, .c (.int .i64) .no, .c .sl .full], .cells [.c (.int .i64) .no, .c (.int .u64) .no, .c (.int .u64) .no, .c (.int .u64) .no, .c (.int .u64) .no, .c (.int .i64) .no, .c (.int .i64) .no, .c .sl .no]], []⟩⟩
noncomputable def o92x0 : OSh := ⟨.rets [.agg [.int .i64, .int .u64, .int .u64, .int .u64, .int .u64, .int .i64, .int .i64, .sl] .no], [.cells [.c .str .no, .c (.int .i64) .no]], []⟩
noncomputable def o92x1 : OSh := ⟨.panic 71 [.int .i64, .int .i64], [.cells [.c .str .no, .c (.int .i64) .no]], []⟩
noncomputable def d92 : FnD := ⟨Tryd.f92, bodyOf Tryd.f92, .no, .plain, [c92_0, c92_1], [o92x0, o92x1]⟩
noncomputable def c98_0 : Cut := ⟨[], 0, 0, [], ⟨spr 19 0 [(0, .c .sl .no), (1, .c (.int .i64) .no)], [], [], []⟩⟩
noncomputable def c98_1 : Cut := ⟨[0, 1, 0, 1], 0, 0, [], ⟨spr 19 0 [(0, .c .sl .no), (1, .c (.int .i64) .no), (7, .c (.int .i64) .no), (8, .c (.int .i64) .no)], [], [], []⟩⟩
noncomputable def o98x0 : OSh := ⟨.rets [.c (.int .i64) .no], [], []⟩
noncomputable def d98 : FnD := ⟨Tryd.f98, bodyOf Tryd.f98, .no, .plain, [c98_0, c98_1], [o98x0]⟩
noncomputable def c99_0 : Cut := ⟨[], 0, 0, [], ⟨spr 5 0 [(0, .c (.int .i64) .no)], [], [], []⟩⟩
noncomputable def o99x0 : OSh := ⟨.rets [.c .str .no], [], []⟩
noncomputable def d99 : FnD := ⟨Tryd.f99, bodyOf Tryd.f99, .no, .plain, [c99_0], [o99x0]⟩
noncomputable def c101_0 : Cut := ⟨[], 1, 0, [], ⟨spr 106 0 [(0, .c (.fix (.ptr 0 0)) .no), (1, .c (.int .i64) .no)], [], [.cells [.c .str .no, .c (.int .i64) .no]], []⟩⟩
noncomputable def c101_1 : Cut := ⟨[1, 0, 1, 0, 1, 1, 1], 1, 0, [], ⟨spr 106 0 [(0, .c (.fix (.ptr 0 0)) .no), (1, .c (.int .i64) .no), (4, .c (.fix (.ptr 1 0)) .no), (5, .c (.int .i64) .no), (6, .c (.int .u8) .no), (21, .c (.int .u8) .no), (22, .c .bool .no)], [], [.cells [.c .str .no, .c (.int .i64) .no], .cells [.c (.int .i64) .no, .c (.int .u64) .no, .c (.int .u64) .no, .c (.int .u64) .no, .c (.int .u64) .no, .c (.int .i64) .no, .c (.int .i64) .no, .c .sl .full]], []⟩⟩
noncomputable def c101_2 : Cut := ⟨[1, 1, 1, 1], 1, 0, [], ⟨spr 106 0 [(0, .c (.fix (.ptr 0 0)) .no), (1, .c (.int .i64) .no), (4, .c (.fix (.ptr 1 0)) .no), (5, .c (.int .i64) .no), (6, .c (.int .u8) .no), (22, .c .bool .no), (30, .c .bool .no), (35, .c .bool .no)], [], [.cells [.c .str .no, .c (.int .i64) .no], .cells [.c (.int .i64) .no, .c (.int .u64) .no, .c (.int .u64) .no, .c (.int .u64) .no, .c (.int .u64) .no, .c (.int .i64) .no, .c (.int .i64) .no, .c .sl .full]], []⟩⟩
noncomputable def c101_3 : Cut := ⟨[1, 0, 1, 0, 1, 0, 1, 1, 1, 1, 1], 1, 0, [], ⟨spr 106 0 [(0, .c (.fix (.ptr 0 0)) .no), (1, .c (.int .i64) .no), (4, .c (.fix (.ptr 1 0)) .no), (5, .c (.int .i64) .no), (6, .c (.int .u8) .no), (22, .c .bool .no), (30, .c .bool .no), (35, .c .bool .no), (66, .c (.int .u8) .no), (67, .c .bool .no), (70, .c .bool .no)], [], [.cells [.c .str .no, .c (.int .i64) .no], .cells [.c (.int .i64) .no, .c (.int .u64) .no, .c (.int .u64) .no, .c (.int .u64) .no, .c (.int .u64) .no, .c (.int .i64) .no, .c (.int .i64) .no, .c .sl .full]], []⟩⟩
noncomputable def o101x0 : OSh := ⟨.rets [.agg [.int .i64, .int .u64, .int .u64, .int .u64, .int .u64, .int .i64, .int .i64, .sl] .no], [.cells [.c .str .no, .c (.int .i64) .no]], []⟩
noncomputable def o101x1 : OSh := ⟨.panic 71 [.int .i64, .int .i64], [.cells [.c .str .no, .c (.int .i64) .no]], []⟩
noncomputable def d101 : FnD := ⟨Tryd.f101, bodyOf Tryd.f101, .no, .plain, [c101_0, c101_1, c101_2, c101_3], [o101x0, o101x1]⟩
noncomputable def c102_0 : Cut := ⟨[], 1, 0, [], ⟨spr 45 0 [(0, .c (.fix (.ptr 0 0)) .no), (1, .c (.int .i64) .no)], [], [.cells [.c .str .no, .c (.int .i64) .no]], []⟩⟩
noncomputable def o102x0 : OSh := ⟨.rets [.c (.int .i64) .no, .c (.int .i64) .no], [.cells [.c .str .no, .c (.int .i64) .no]], []⟩
noncomputable def o102x1 : OSh := ⟨.panic 71 [.int .i64, .int .i64], [.cells [.c .str .no, .c (.int .i64) .no]], []⟩
noncomputable def d102 : FnD := ⟨Tryd.f102, bodyOf Tryd.f102, .no, .plain, [c102_0], [o102x0, o102x1]⟩
noncomputable def c107_0 : Cut := ⟨[], 0, 0, [], ⟨spr 54 0 [(0, .c (.int .i64) .no), (1, .c (.int .i64) .no)], [], [], []⟩⟩
noncomputable def o107x0 : OSh := ⟨.rets [.c .str .no], [], []⟩
noncomputable def d107 : FnD := ⟨Tryd.f107, bodyOf Tryd.f107, .no, .plain, [c107_0], [o107x0]⟩
noncomputable def c109_0 : Cut := ⟨[], 1, 0, [], ⟨spr 10 0 [(0, .c (.fix (.ptr 0 0)) .no), (1, .c (.int .i64) .no), (2, .c (.int .i64) .no)], [], [.cells [.c .str .no, .c (.int .i64) .no]], []⟩⟩
noncomputable def o109x0 : OSh := ⟨.panic 71 [.int .i64, .int .i64], [.cells [.c .str .no, .c (.int .i64) .no]], []⟩
noncomputable def d109 : FnD := ⟨Tryd.f109, bodyOf Tryd.f109, .no, .plain, [c109_0], [o109x0]⟩
noncomputable def c110_0 : Cut := ⟨[], 0, 0, [], ⟨spr 70 0 [(0, .c .str .no), (1, .c (.int .i64) .no)], [], [], []⟩⟩
noncomputable def c110_1 : Cut := ⟨[0, 1, 0, 1, 1, 1, 1, 1, 1], 0, 0, [], ⟨spr 70 0 [(4, .c (.fix (.ptr 0 0)) .no), (7, .c (.fix (.ptr 1 0)) .no), (8, .c .bool .no), (9, .c (.fix (.ptr 2 0)) .no), (10, .c .bool .no), (26, .c .bool .no), (35, .c .bool .no)], [], [.cells [.c (.int .u64) .no, .c (.int .u64) .no, .c (.int .u64) .no, .c (.int .u64) .no], .cells [.c .str .no, .c (.int .i64) .no], .cells [.c (.int .u64) .no, .c (.int .u64) .no, .c (.int .u64) .no, .c (.int .u64) .no]], []⟩⟩
noncomputable def o110x0 : OSh := ⟨.rets [.agg [.int .u64, .int .u64, .int .u64, .int .u64] .no, .c (.int .i64) .no, .c (.int .i64) .no], [], []⟩
noncomputable def d110 : FnD := ⟨Tryd.f110, bodyOf Tryd.f110, .no, .plain, [c110_0, c110_1], [o110x0]⟩
noncomputable def c111_0 : Cut := ⟨[], 0, 0, [], ⟨spr 8 0 [(0, .c (.int .u8) .no)], [], [], []⟩⟩
noncomputable def o111x0 : OSh := ⟨.rets [.agg [.int .i64, .int .u64, .int .u64, .int .u64, .int .u64, .int .i64, .int .i64, .sl] .no], [], []⟩
noncomputable def d111 : FnD := ⟨Tryd.f111, bodyOf Tryd.f111, .no, .plain, [c111_0], [o111x0]⟩
noncomputable def c112_0 : Cut := ⟨[], 1, 0, [], ⟨spr 31 0 [(0, .c (.fix (.ptr 0 0)) .no)], [], [.cells [.c .str .no, .c (.int .i64) .no]], []⟩⟩
noncomputable def o112x0 : OSh := ⟨.panic 71 [.int .i64, .int .i64], [.cells [.c .str .no, .c (.int .i64) .no]], []⟩
noncomputable def o112x1 : OSh := ⟨.rets [.c (.int .u8) .no], [.cells [.c .str .no, .c (.int .i64) .no]], []⟩
noncomputable def d112 : FnD := ⟨Tryd.f112, bodyOf Tryd.f112, .no, .plain, [c112_0], [o112x0, o112x1]⟩
noncomputable def c113_0 : Cut := ⟨[], 1, 0, [], ⟨spr 47 0 [(0, .c (.fix (.ptr 0 0)) .no)], [], [.cells [.c .str .no, .c (.int .i64) .no]], []⟩⟩
noncomputable def c113_1 : Cut := ⟨[0, 0, 1, 1], 1, 0, [], ⟨spr 47 0 [(0, .c (.fix (.ptr 0 0)) .no), (4, .c (.int .i64) .no), (5, .c (.int .i64) .no)], [], [.cells [.c .str .no, .c (.int .i64) .no]], []⟩⟩
noncomputable def o113x0 : OSh := ⟨.rets [.c (.int .i64) .no, .c .bool .no], [.cells [.c .str .no, .c (.int .i64) .no]], []⟩
noncomputable def d113 : FnD := ⟨Tryd.f113, bodyOf Tryd.f113, .no, .plain, [c113_0, c113_1], [o113x0]⟩
noncomputable def c117_0 : Cut := ⟨[], 0, 0, [], ⟨spr 15 0 [(0, .c (.int .i64) .no)], [], [], []⟩⟩
noncomputable def o117x0 : OSh := ⟨.rets [.c .str .no], [], []⟩
noncomputable def d117 : FnD := ⟨Tryd.f117, bodyOf Tryd.f117, .no, .plain, [c117_0], [o117x0]⟩
noncomputable def c121_0 : Cut := ⟨[], 1, 0, [], ⟨spr 16 0 [(0, .c (.fix (.ptr 0 0)) .no), (1, .c .str .no)], [], [.cells [.c .str .no, .c (.int .i64) .no]], []⟩⟩
noncomputable def o121x0 : OSh := ⟨.rets [.c .bool .no], [.cells [.c .str .no, .c (.int .i64) .no]], []⟩
noncomputable def d121 : FnD := ⟨Tryd.f121, bodyOf Tryd.f121, .no, .plain, [c121_0], [o121x0]⟩
noncomputable def c122_0 : Cut := ⟨[], 1, 0, [], ⟨spr 94 0 [(0, .c (.fix (.ptr 0 0)) .no)], [], [.cells [.c .str .no, .c (.int .i64) .no]], []⟩⟩
noncomputable def o122x0 : OSh := ⟨.rets [.agg [.int .u64, .int .u64, .int .u64, .int .u64] .no, .c (.int .i64) .no], [.cells [.c .str .no, .c (.int .i64) .no]], []⟩
noncomputable def d122 : FnD := ⟨Tryd.f122, bodyOf Tryd.f122, .no, .plain, [c122_0], [o122x0]⟩
noncomputable def c123_0 : Cut := ⟨[], 0, 0, [], ⟨spr 19 0 [(0, .agg [.int .u64, .int .u64, .int .u64, .int .u64] .no), (1, .agg [.int .u64, .int .u64, .int .u64, .int .u64] .no)], [], [], []⟩⟩
noncomputable def c123_1 : Cut := ⟨[0, 1, 0, 1], 0, 0, [], ⟨spr 19 0 [(2, .c (.fix (.ptr 0 0)) .no), (3, .c (.fix (.ptr 1 0)) .no), (4, .c (.fix (.ptr 2 0)) .no), (6, .c (.int .i64) .no)], [], [.cells [.c (.int .u64) .no, .c (.int .u64) .no, .c (.int .u64) .no, .c (.int .u64) .no], .cells [.c (.int .u64) .no, .c (.int .u64) .no, .c (.int .u64) .no, .c (.int .u64) .no], .cells [.c (.int .u64) .no, .c (.int .u64) .no, .c (.int .u64) .no, .c (.int .u64) .no]], []⟩⟩
noncomputable def o123x0 : OSh := ⟨.rets [.agg [.int .u64, .int .u64, .int .u64, .int .u64] .no], [], []⟩
noncomputable def d123 : FnD := ⟨Tryd.f123, bodyOf Tryd.f123, .no, .plain, [c123_0, c123_1], [o123x0]⟩
noncomputable def c124_0 : Cut := ⟨[], 0, 0, [], ⟨spr 11 0 [(0, .agg [.int .u64, .int .u64, .int .u64, .int .u64] .no), (1, .c (.int .u8) .no), (2, .c (.int .u8) .no)], [], [], []⟩⟩
noncomputable def o124x0 : OSh := ⟨.rets [.agg [.int .u64, .int .u64, .int .u64, .int .u64] .no], [], []⟩
noncomputable def d124 : FnD := ⟨Tryd.f124, bodyOf Tryd.f124, .no, .plain, [c124_0], [o124x0]⟩
noncomputable def c132_0 : Cut := ⟨[], 1, 0, [], ⟨spr 74 0 [(0, .c (.fix (.ptr 0 0)) .no)], [], [.cells [.c .str .no, .c (.int .i64) .no]], []⟩⟩
noncomputable def o132x0 : OSh := ⟨.rets [.c (.int .u8) .no, .c .bool .no], [.cells [.c .str .no, .c (.int .i64) .no]], []⟩
noncomputable def d132 : FnD := ⟨Tryd.f132, bodyOf Tryd.f132, .no, .plain, [c132_0], [o132x0]⟩
noncomputable def c133_0 : Cut := ⟨[], 0, 0, [], ⟨spr 26 0 [(0, .agg [.int .u64, .int .u64, .int .u64, .int .u64] .no), (1, .c (.int .u8) .no), (2, .c (.int .u8) .no)], [], [], []⟩⟩
noncomputable def c133_1 : Cut := ⟨[0, 1, 0, 1], 0, 0, [], ⟨spr 26 0 [(2, .c (.int .u8) .no), (3, .c (.fix (.ptr 0 0)) .no), (6, .c (.fix (.ptr 1 0)) .no), (7, .c (.int .i64) .no)], [], [.cells [.c (.int .u64) .no, .c (.int .u64) .no, .c (.int .u64) .no, .c (.int .u64) .no], .cells [.c (.int .u64) .no, .c (.int .u64) .no, .c (.int .u64) .no, .c (.int .u64) .no]], []⟩⟩
noncomputable def o133x0 : OSh := ⟨.rets [.agg [.int .u64, .int .u64, .int .u64, .int .u64] .no], [], []⟩
noncomputable def d133 : FnD := ⟨Tryd.f133, bodyOf Tryd.f133, .no, .plain, [c133_0, c133_1], [o133x0]⟩
/-- the functions, and their data -/
noncomputable def fns : FuncId → Option FnD := fnsL [(6, d6), (7, d7), (8, d8), (19, d19), (20, d20), (21, d21), (22, d22), (23, d23), (24, d24), (25, d25), (26, d26), (27, d27), (28, d28), (29, d29), (30, d30), (42, d42), (44, d44), (45, d45), (46, d46), (47, d47), (48, d48), (49, d49), (50, d50), (51, d51), (53, d53), (54, d54), (55, d55), (67, d67), (68, d68), (69, d69), (70, d70), (71, d71), (72, d72), (74, d74), (75, d75), (76, d76), (77, d77), (78, d78), (79, d79), (85, d85), (86, d86), (87, d87), (88, d88), (89, d89), (91, d91), (92, d92), (98, d98), (99, d99), (101, d101), (102, d102), (107, d107), (109, d109), (110, d110), (111, d111), (112, d112), (113, d113), (117, d117), (121, d121), (122, d122), (123, d123), (124, d124), (132, d132), (133, d133)]
noncomputable def ext : FuncId → Option Go.Ab.Spec := extL [(66, specCopyCheck 59 5), (73, specJoin), (93, specIndexByteString), (118, specFail), (119, specFail), (120, specFail), (130, specFail)]
noncomputable def lay : Lay := ⟨cx, pre, fns, ext⟩
theorem h6 : lay.fns 6 = some d6 := by kernel_rfl
theorem h7 : lay.fns 7 = some d7 := by kernel_rfl
theorem h8 : lay.fns 8 = some d8 := by kernel_rfl
theorem h19 : lay.fns 19 = some d19 := by kernel_rfl
theorem h20 : lay.fns 20 = some d20 := by kernel_rfl
theorem h21 : lay.fns 21 = some d21 := by kernel_rfl
theorem h22 : lay.fns 22 = some d22 := by kernel_rfl
theorem h23 : lay.fns 23 = some d23 := by kernel_rfl
theorem h24 : lay.fns 24 = some d24 := by kernel_rfl
theorem h27 : lay.fns 27 = some d27 := by kernel_rfl
theorem h28 : lay.fns 28 = some d28 := by kernel_rfl
theorem h29 : lay.fns 29 = some d29 := by kernel_rfl
theorem h42 : lay.fns 42 = some d42 := by kernel_rfl
theorem h44 : lay.fns 44 = some d44 := by kernel_rfl
theorem h45 : lay.fns 45 = some d45 := by kernel_rfl
theorem h46 : lay.fns 46 = some d46 := by kernel_rfl
theorem h47 : lay.fns 47 = some d47 := by kernel_rfl
theorem h48 : lay.fns 48 = some d48 := by kernel_rfl
theorem h53 : lay.fns 53 = some d53 := by kernel_rfl
theorem h54 : lay.fns 54 = some d54 := by kernel_rfl
theorem h55 : lay.fns 55 = some d55 := by kernel_rfl
theorem h67 : lay.fns 67 = some d67 := by kernel_rfl
theorem h68 : lay.fns 68 = some d68 := by kernel_rfl
theorem h69 : lay.fns 69 = some d69 := by kernel_rfl
theorem h70 : lay.fns 70 = some d70 := by kernel_rfl
theorem h71 : lay.fns 71 = some d71 := by kernel_rfl
theorem h72 : lay.fns 72 = some d72 := by kernel_rfl
theorem h75 : lay.fns 75 = some d75 := by kernel_rfl
theorem h76 : lay.fns 76 = some d76 := by kernel_rfl
theorem h77 : lay.fns 77 = some d77 := by kernel_rfl
theorem h78 : lay.fns 78 = some d78 := by kernel_rfl
theorem h79 : lay.fns 79 = some d79 := by kernel_rfl
theorem h85 : lay.fns 85 = some d85 := by kernel_rfl
theorem h86 : lay.fns 86 = some d86 := by kernel_rfl
theorem h87 : lay.fns 87 = some d87 := by kernel_rfl
theorem h88 : lay.fns 88 = some d88 := by kernel_rfl
theorem h89 : lay.fns 89 = some d89 := by kernel_rfl
theorem h91 : lay.fns 91 = some d91 := by kernel_rfl
theorem h92 : lay.fns 92 = some d92 := by kernel_rfl
theorem h98 : lay.fns 98 = some d98 := by kernel_rfl
theorem h99 : lay.fns 99 = some d99 := by kernel_rfl
theorem h101 : lay.fns 101 = some d101 := by kernel_rfl
theorem h102 : lay.fns 102 = some d102 := by kernel_rfl
theorem h107 : lay.fns 107 = some d107 := by kernel_rfl
theorem h109 : lay.fns 109 = some d109 := by kernel_rfl
theorem h110 : lay.fns 110 = some d110 := by kernel_rfl
theorem h111 : lay.fns 111 = some d111 := by kernel_rfl
theorem h112 : lay.fns 112 = some d112 := by kernel_rfl
theorem h113 : lay.fns 113 = some d113 := by kernel_rfl
theorem h117 : lay.fns 117 = some d117 := by kernel_rfl
theorem h121 : lay.fns 121 = some d121 := by kernel_rfl
theorem h122 : lay.fns 122 = some d122 := by kernel_rfl
theorem h123 : lay.fns 123 = some d123 := by kernel_rfl
theorem h124 : lay.fns 124 = some d124 := by kernel_rfl
theorem h132 : lay.fns 132 = some d132 := by kernel_rfl
theorem h133 : lay.fns 133 = some d133 := by kernel_rfl
end Go.Proofs.YtdiphholophdcaaDoor.T

