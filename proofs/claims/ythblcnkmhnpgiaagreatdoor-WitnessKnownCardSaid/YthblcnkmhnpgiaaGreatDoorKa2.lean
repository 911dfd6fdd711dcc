/- Calls, each by one run. -/
import Derived.Test.YthblcnkmhnpgiaaGreatDoorKaO
set_option linter.all false
set_option maxRecDepth 100000
namespace Go.Proofs.YthblcnkmhnpgiaaGreatDoor
open Go.RX
open Ab
def Ka16a : List SV := [p 0 0, .agg [n 3, z, z, n 5, tt, t #[]]]
def Ka16o : List (Nat × SObj) := [(0, KaS111), (1, KaS0), (2, KaS1), (3, KaS2), (4, KaS100), (5, KaS101), (6, KaS112), (7, KaS102), (8, KaS103), (9, M [] 9), (10, M [] 4), (11, KaS104), (12, M [] 5), (13, M [] 5), (14, C [z, z, z, z] 9), (15, KaS46), (16, M [] 4), (17, KaS105), (18, KaS106), (19, KaS47), (20, KaS5), (21, KaS45), (22, KaS93), (23, KaS107), (24, KaS25), (25, KaS59), (26, KaS60), (27, KaS76), (28, KaS77), (29, KaS94), (30, KaS108), (31, KaS107)]
def Ka16x : SV := .tuple [e 47 0 1 8 1, z]
def Ka16u : List (Nat × Option SObj) := [(0, some (KaS113)), (47, some (C [n 2, n 1011, n 4, n 1001, n 1, n 5, z, z] 213)), (7, some (KaS114)), (8, some (C [z, z, z, z, z] 269)), (17, some (KaS3)), (31, some (KaS115))]
theorem Ka16r (σ : Sig) : endOkS (env σ) (KaC σ) Tryz.f29.ntmps KaSl29 Tryz.f29.results.toList KaB29 (cutSt (Sym.frameOf Ka16a KaSl29) Ka16o 32) Ka16x (after Ka16o Ka16u) 51 = true := by kernel_rfl
theorem Ka16p : updOk ⟨heapOf (after Ka16o Ka16u), 51, 0⟩ Ka16u = true := by kernel_rfl
theorem Ka16k : keptOk ⟨heapOf (after Ka16o Ka16u), 51, 0⟩ Ka16u Ka16o = true := by kernel_rfl
def Ka17a : List SV := [p 0 0, .agg [n 1, n 1, z, z, ff, t #[]]]
def Ka17o : List (Nat × SObj) := [(0, KaS113), (1, KaS0), (2, KaS1), (3, KaS2), (4, KaS100), (5, KaS101), (6, KaS112), (7, KaS114), (8, C [z, z, z, z, z] 269), (9, M [] 9), (10, M [] 4), (11, KaS104), (12, M [] 5), (13, M [] 5), (14, C [z, z, z, z] 9), (15, KaS46), (16, M [] 4), (17, KaS3), (18, KaS106), (19, KaS47), (20, KaS5), (21, KaS45), (22, KaS93), (23, KaS107), (24, KaS25), (25, KaS59), (26, KaS60), (27, KaS76), (28, KaS77), (29, KaS94), (30, KaS108), (31, KaS115)]
def Ka17x : SV := .tuple [ns, z]
def Ka17u : List (Nat × Option SObj) := [(0, some (KaS116)), (6, some (KaS117))]
theorem Ka17r (σ : Sig) : endOkS (env σ) (KaC σ) Tryz.f29.ntmps KaSl29 Tryz.f29.results.toList KaB29 (cutSt (Sym.frameOf Ka17a KaSl29) Ka17o 32) Ka17x (after Ka17o Ka17u) 161 = true := by kernel_rfl
theorem Ka17p : updOk ⟨heapOf (after Ka17o Ka17u), 161, 0⟩ Ka17u = true := by kernel_rfl
theorem Ka17k : keptOk ⟨heapOf (after Ka17o Ka17u), 161, 0⟩ Ka17u Ka17o = true := by kernel_rfl
def Ka18a : List SV := [p 0 0, .agg [n 1, n 1, z, z, ff, t #[]]]
def Ka18o : List (Nat × SObj) := [(0, KaS116), (1, KaS0), (2, KaS1), (3, KaS2), (4, KaS100), (5, KaS101), (6, KaS117), (7, KaS114), (8, C [z, z, z, z, z] 269), (9, M [] 9), (10, M [] 4), (11, KaS104), (12, M [] 5), (13, M [] 5), (14, C [z, z, z, z] 9), (15, KaS46), (16, M [] 4), (17, KaS3), (18, KaS106), (19, KaS47), (20, KaS5), (21, KaS45), (22, KaS93), (23, KaS107), (24, KaS25), (25, KaS59), (26, KaS60), (27, KaS76), (28, KaS77), (29, KaS94), (30, KaS108), (31, KaS115)]
def Ka18x : SV := .tuple [ns, z]
def Ka18u : List (Nat × Option SObj) := [(0, some (KaS118)), (6, some (KaS119))]
theorem Ka18r (σ : Sig) : endOkS (env σ) (KaC σ) Tryz.f29.ntmps KaSl29 Tryz.f29.results.toList KaB29 (cutSt (Sym.frameOf Ka18a KaSl29) Ka18o 32) Ka18x (after Ka18o Ka18u) 161 = true := by kernel_rfl
theorem Ka18p : updOk ⟨heapOf (after Ka18o Ka18u), 161, 0⟩ Ka18u = true := by kernel_rfl
theorem Ka18k : keptOk ⟨heapOf (after Ka18o Ka18u), 161, 0⟩ Ka18u Ka18o = true := by kernel_rfl
def Ka19a : List SV := [p 0 0, .agg [n 1, n 1, z, z, ff, t #[]]]
def Ka19o : List (Nat × SObj) := [(0, KaS118), (1, KaS0), (2, KaS1), (3, KaS2), (4, KaS100), (5, KaS101), (6, KaS119), (7, KaS114), (8, C [z, z, z, z, z] 269), (9, M [] 9), (10, M [] 4), (11, KaS104), (12, M [] 5), (13, M [] 5), (14, C [z, z, z, z] 9), (15, KaS46), (16, M [] 4), (17, KaS3), (18, KaS106), (19, KaS47), (20, KaS5), (21, KaS45), (22, KaS93), (23, KaS107), (24, KaS25), (25, KaS59), (26, KaS60), (27, KaS76), (28, KaS77), (29, KaS94), (30, KaS108), (31, KaS115)]
def Ka19x : SV := .tuple [ns, z]
def Ka19u : List (Nat × Option SObj) := [(0, some (KaS120)), (6, some (KaS121))]
theorem Ka19r (σ : Sig) : endOkS (env σ) (KaC σ) Tryz.f29.ntmps KaSl29 Tryz.f29.results.toList KaB29 (cutSt (Sym.frameOf Ka19a KaSl29) Ka19o 32) Ka19x (after Ka19o Ka19u) 161 = true := by kernel_rfl
theorem Ka19p : updOk ⟨heapOf (after Ka19o Ka19u), 161, 0⟩ Ka19u = true := by kernel_rfl
theorem Ka19k : keptOk ⟨heapOf (after Ka19o Ka19u), 161, 0⟩ Ka19u Ka19o = true := by kernel_rfl
def Ka20a : List SV := [p 0 0, .agg [n 1, n 1, z, z, ff, t #[]]]
def Ka20o : List (Nat × SObj) := [(0, KaS120), (1, KaS0), (2, KaS1), (3, KaS2), (4, KaS100), (5, KaS101), (6, KaS121), (7, KaS114), (8, C [z, z, z, z, z] 269), (9, M [] 9), (10, M [] 4), (11, KaS104), (12, M [] 5), (13, M [] 5), (14, C [z, z, z, z] 9), (15, KaS46), (16, M [] 4), (17, KaS3), (18, KaS106), (19, KaS47), (20, KaS5), (21, KaS45), (22, KaS93), (23, KaS107), (24, KaS25), (25, KaS59), (26, KaS60), (27, KaS76), (28, KaS77), (29, KaS94), (30, KaS108), (31, KaS115)]
def Ka20x : SV := .tuple [ns, z]
def Ka20u : List (Nat × Option SObj) := [(0, some (KaS122)), (6, some (KaS123))]
theorem Ka20r (σ : Sig) : endOkS (env σ) (KaC σ) Tryz.f29.ntmps KaSl29 Tryz.f29.results.toList KaB29 (cutSt (Sym.frameOf Ka20a KaSl29) Ka20o 32) Ka20x (after Ka20o Ka20u) 161 = true := by kernel_rfl
theorem Ka20p : updOk ⟨heapOf (after Ka20o Ka20u), 161, 0⟩ Ka20u = true := by kernel_rfl
theorem Ka20k : keptOk ⟨heapOf (after Ka20o Ka20u), 161, 0⟩ Ka20u Ka20o = true := by kernel_rfl
def Ka21a : List SV := [p 0 0, .agg [n 1, n 1, z, z, ff, t #[]]]
def Ka21o : List (Nat × SObj) := [(0, KaS122), (1, KaS0), (2, KaS1), (3, KaS2), (4, KaS100), (5, KaS101), (6, KaS123), (7, KaS114), (8, C [z, z, z, z, z] 269), (9, M [] 9), (10, M [] 4), (11, KaS104), (12, M [] 5), (13, M [] 5), (14, C [z, z, z, z] 9), (15, KaS46), (16, M [] 4), (17, KaS3), (18, KaS106), (19, KaS47), (20, KaS5), (21, KaS45), (22, KaS93), (23, KaS107), (24, KaS25), (25, KaS59), (26, KaS60), (27, KaS76), (28, KaS77), (29, KaS94), (30, KaS108), (31, KaS115)]
def Ka21x : SV := .tuple [ns, z]
def Ka21u : List (Nat × Option SObj) := [(0, some (KaS124)), (6, some (KaS125))]
theorem Ka21r (σ : Sig) : endOkS (env σ) (KaC σ) Tryz.f29.ntmps KaSl29 Tryz.f29.results.toList KaB29 (cutSt (Sym.frameOf Ka21a KaSl29) Ka21o 32) Ka21x (after Ka21o Ka21u) 161 = true := by kernel_rfl
theorem Ka21p : updOk ⟨heapOf (after Ka21o Ka21u), 161, 0⟩ Ka21u = true := by kernel_rfl
theorem Ka21k : keptOk ⟨heapOf (after Ka21o Ka21u), 161, 0⟩ Ka21u Ka21o = true := by kernel_rfl
def Ka22a : List SV := [p 0 0, .agg [n 1, n 1, z, z, ff, t #[]]]
def Ka22o : List (Nat × SObj) := [(0, KaS124), (1, KaS0), (2, KaS1), (3, KaS2), (4, KaS100), (5, KaS101), (6, KaS125), (7, KaS114), (8, C [z, z, z, z, z] 269), (9, M [] 9), (10, M [] 4), (11, KaS104), (12, M [] 5), (13, M [] 5), (14, C [z, z, z, z] 9), (15, KaS46), (16, M [] 4), (17, KaS3), (18, KaS106), (19, KaS47), (20, KaS5), (21, KaS45), (22, KaS93), (23, KaS107), (24, KaS25), (25, KaS59), (26, KaS60), (27, KaS76), (28, KaS77), (29, KaS94), (30, KaS108), (31, KaS115)]
def Ka22x : SV := .tuple [ns, z]
def Ka22u : List (Nat × Option SObj) := [(0, some (KaS126)), (6, some (KaS127))]
theorem Ka22r (σ : Sig) : endOkS (env σ) (KaC σ) Tryz.f29.ntmps KaSl29 Tryz.f29.results.toList KaB29 (cutSt (Sym.frameOf Ka22a KaSl29) Ka22o 32) Ka22x (after Ka22o Ka22u) 161 = true := by kernel_rfl
theorem Ka22p : updOk ⟨heapOf (after Ka22o Ka22u), 161, 0⟩ Ka22u = true := by kernel_rfl
theorem Ka22k : keptOk ⟨heapOf (after Ka22o Ka22u), 161, 0⟩ Ka22u Ka22o = true := by kernel_rfl
def Ka23a : List SV := [p 0 0, .agg [n 1, n 1, z, z, ff, t #[]]]
def Ka23o : List (Nat × SObj) := [(0, KaS126), (1, KaS0), (2, KaS1), (3, KaS2), (4, KaS100), (5, KaS101), (6, KaS127), (7, KaS114), (8, C [z, z, z, z, z] 269), (9, M [] 9), (10, M [] 4), (11, KaS104), (12, M [] 5), (13, M [] 5), (14, C [z, z, z, z] 9), (15, KaS46), (16, M [] 4), (17, KaS3), (18, KaS106), (19, KaS47), (20, KaS5), (21, KaS45), (22, KaS93), (23, KaS107), (24, KaS25), (25, KaS59), (26, KaS60), (27, KaS76), (28, KaS77), (29, KaS94), (30, KaS108), (31, KaS115)]
def Ka23x : SV := .tuple [ns, z]
def Ka23u : List (Nat × Option SObj) := [(0, some (KaS128)), (6, some (KaS129))]
theorem Ka23r (σ : Sig) : endOkS (env σ) (KaC σ) Tryz.f29.ntmps KaSl29 Tryz.f29.results.toList KaB29 (cutSt (Sym.frameOf Ka23a KaSl29) Ka23o 32) Ka23x (after Ka23o Ka23u) 161 = true := by kernel_rfl
theorem Ka23p : updOk ⟨heapOf (after Ka23o Ka23u), 161, 0⟩ Ka23u = true := by kernel_rfl
theorem Ka23k : keptOk ⟨heapOf (after Ka23o Ka23u), 161, 0⟩ Ka23u Ka23o = true := by kernel_rfl
def Ka24a : List SV := [p 0 0, .agg [n 1, n 1, z, z, ff, t #[]]]
def Ka24o : List (Nat × SObj) := [(0, KaS128), (1, KaS0), (2, KaS1), (3, KaS2), (4, KaS100), (5, KaS101), (6, KaS129), (7, KaS114), (8, C [z, z, z, z, z] 269), (9, M [] 9), (10, M [] 4), (11, KaS104), (12, M [] 5), (13, M [] 5), (14, C [z, z, z, z] 9), (15, KaS46), (16, M [] 4), (17, KaS3), (18, KaS106), (19, KaS47), (20, KaS5), (21, KaS45), (22, KaS93), (23, KaS107), (24, KaS25), (25, KaS59), (26, KaS60), (27, KaS76), (28, KaS77), (29, KaS94), (30, KaS108), (31, KaS115)]
def Ka24x : SV := .tuple [ns, z]
def Ka24u : List (Nat × Option SObj) := [(0, some (KaS130)), (6, some (KaS131))]
theorem Ka24r (σ : Sig) : endOkS (env σ) (KaC σ) Tryz.f29.ntmps KaSl29 Tryz.f29.results.toList KaB29 (cutSt (Sym.frameOf Ka24a KaSl29) Ka24o 32) Ka24x (after Ka24o Ka24u) 161 = true := by kernel_rfl
theorem Ka24p : updOk ⟨heapOf (after Ka24o Ka24u), 161, 0⟩ Ka24u = true := by kernel_rfl
theorem Ka24k : keptOk ⟨heapOf (after Ka24o Ka24u), 161, 0⟩ Ka24u Ka24o = true := by kernel_rfl
def Ka25a : List SV := [p 0 0, .agg [n 1, n 1, z, z, ff, t #[]]]
def Ka25o : List (Nat × SObj) := [(0, KaS130), (1, KaS0), (2, KaS1), (3, KaS2), (4, KaS100), (5, KaS101), (6, KaS131), (7, KaS114), (8, C [z, z, z, z, z] 269), (9, M [] 9), (10, M [] 4), (11, KaS104), (12, M [] 5), (13, M [] 5), (14, C [z, z, z, z] 9), (15, KaS46), (16, M [] 4), (17, KaS3), (18, KaS106), (19, KaS47), (20, KaS5), (21, KaS45), (22, KaS93), (23, KaS107), (24, KaS25), (25, KaS59), (26, KaS60), (27, KaS76), (28, KaS77), (29, KaS94), (30, KaS108), (31, KaS115)]
def Ka25x : SV := .tuple [ns, z]
def Ka25u : List (Nat × Option SObj) := [(0, some (KaS132)), (6, some (KaS133))]
theorem Ka25r (σ : Sig) : endOkS (env σ) (KaC σ) Tryz.f29.ntmps KaSl29 Tryz.f29.results.toList KaB29 (cutSt (Sym.frameOf Ka25a KaSl29) Ka25o 32) Ka25x (after Ka25o Ka25u) 161 = true := by kernel_rfl
theorem Ka25p : updOk ⟨heapOf (after Ka25o Ka25u), 161, 0⟩ Ka25u = true := by kernel_rfl
theorem Ka25k : keptOk ⟨heapOf (after Ka25o Ka25u), 161, 0⟩ Ka25u Ka25o = true := by kernel_rfl
def Ka26a : List SV := [p 0 0, .agg [n 1, n 1, z, z, ff, t #[]]]
def Ka26o : List (Nat × SObj) := [(0, KaS132), (1, KaS0), (2, KaS1), (3, KaS2), (4, KaS100), (5, KaS101), (6, KaS133), (7, KaS114), (8, C [z, z, z, z, z] 269), (9, M [] 9), (10, M [] 4), (11, KaS104), (12, M [] 5), (13, M [] 5), (14, C [z, z, z, z] 9), (15, KaS46), (16, M [] 4), (17, KaS3), (18, KaS106), (19, KaS47), (20, KaS5), (21, KaS45), (22, KaS93), (23, KaS107), (24, KaS25), (25, KaS59), (26, KaS60), (27, KaS76), (28, KaS77), (29, KaS94), (30, KaS108), (31, KaS115)]
def Ka26x : SV := .tuple [ns, z]
def Ka26u : List (Nat × Option SObj) := [(0, some (KaS134)), (6, some (KaS135))]
theorem Ka26r (σ : Sig) : endOkS (env σ) (KaC σ) Tryz.f29.ntmps KaSl29 Tryz.f29.results.toList KaB29 (cutSt (Sym.frameOf Ka26a KaSl29) Ka26o 32) Ka26x (after Ka26o Ka26u) 161 = true := by kernel_rfl
theorem Ka26p : updOk ⟨heapOf (after Ka26o Ka26u), 161, 0⟩ Ka26u = true := by kernel_rfl
theorem Ka26k : keptOk ⟨heapOf (after Ka26o Ka26u), 161, 0⟩ Ka26u Ka26o = true := by kernel_rfl
def Ka27a : List SV := [p 0 0, .agg [n 1, n 1, z, z, ff, t #[]]]
def Ka27o : List (Nat × SObj) := [(0, KaS134), (1, KaS0), (2, KaS1), (3, KaS2), (4, KaS100), (5, KaS101), (6, KaS135), (7, KaS114), (8, C [z, z, z, z, z] 269), (9, M [] 9), (10, M [] 4), (11, KaS104), (12, M [] 5), (13, M [] 5), (14, C [z, z, z, z] 9), (15, KaS46), (16, M [] 4), (17, KaS3), (18, KaS106), (19, KaS47), (20, KaS5), (21, KaS45), (22, KaS93), (23, KaS107), (24, KaS25), (25, KaS59), (26, KaS60), (27, KaS76), (28, KaS77), (29, KaS94), (30, KaS108), (31, KaS115)]
def Ka27x : SV := .tuple [ns, z]
def Ka27u : List (Nat × Option SObj) := [(0, some (KaS136)), (6, some (KaS137))]
theorem Ka27r (σ : Sig) : endOkS (env σ) (KaC σ) Tryz.f29.ntmps KaSl29 Tryz.f29.results.toList KaB29 (cutSt (Sym.frameOf Ka27a KaSl29) Ka27o 32) Ka27x (after Ka27o Ka27u) 161 = true := by kernel_rfl
theorem Ka27p : updOk ⟨heapOf (after Ka27o Ka27u), 161, 0⟩ Ka27u = true := by kernel_rfl
theorem Ka27k : keptOk ⟨heapOf (after Ka27o Ka27u), 161, 0⟩ Ka27u Ka27o = true := by kernel_rfl
def Ka28a : List SV := [p 0 0, .agg [n 1, n 1, z, z, ff, t #[]]]
def Ka28o : List (Nat × SObj) := [(0, KaS136), (1, KaS0), (2, KaS1), (3, KaS2), (4, KaS100), (5, KaS101), (6, KaS137), (7, KaS114), (8, C [z, z, z, z, z] 269), (9, M [] 9), (10, M [] 4), (11, KaS104), (12, M [] 5), (13, M [] 5), (14, C [z, z, z, z] 9), (15, KaS46), (16, M [] 4), (17, KaS3), (18, KaS106), (19, KaS47), (20, KaS5), (21, KaS45), (22, KaS93), (23, KaS107), (24, KaS25), (25, KaS59), (26, KaS60), (27, KaS76), (28, KaS77), (29, KaS94), (30, KaS108), (31, KaS115)]
def Ka28x : SV := .tuple [ns, z]
def Ka28u : List (Nat × Option SObj) := [(0, some (KaS138)), (6, some (KaS139))]
theorem Ka28r (σ : Sig) : endOkS (env σ) (KaC σ) Tryz.f29.ntmps KaSl29 Tryz.f29.results.toList KaB29 (cutSt (Sym.frameOf Ka28a KaSl29) Ka28o 32) Ka28x (after Ka28o Ka28u) 161 = true := by kernel_rfl
theorem Ka28p : updOk ⟨heapOf (after Ka28o Ka28u), 161, 0⟩ Ka28u = true := by kernel_rfl
theorem Ka28k : keptOk ⟨heapOf (after Ka28o Ka28u), 161, 0⟩ Ka28u Ka28o = true := by kernel_rfl
def Ka29a : List SV := [p 0 0, .agg [n 1, n 1, z, z, ff, t #[]]]
def Ka29o : List (Nat × SObj) := [(0, KaS138), (1, KaS0), (2, KaS1), (3, KaS2), (4, KaS100), (5, KaS101), (6, KaS139), (7, KaS114), (8, C [z, z, z, z, z] 269), (9, M [] 9), (10, M [] 4), (11, KaS104), (12, M [] 5), (13, M [] 5), (14, C [z, z, z, z] 9), (15, KaS46), (16, M [] 4), (17, KaS3), (18, KaS106), (19, KaS47), (20, KaS5), (21, KaS45), (22, KaS93), (23, KaS107), (24, KaS25), (25, KaS59), (26, KaS60), (27, KaS76), (28, KaS77), (29, KaS94), (30, KaS108), (31, KaS115)]
def Ka29x : SV := .tuple [ns, z]
def Ka29u : List (Nat × Option SObj) := [(0, some (KaS140)), (6, some (KaS141))]
theorem Ka29r (σ : Sig) : endOkS (env σ) (KaC σ) Tryz.f29.ntmps KaSl29 Tryz.f29.results.toList KaB29 (cutSt (Sym.frameOf Ka29a KaSl29) Ka29o 32) Ka29x (after Ka29o Ka29u) 161 = true := by kernel_rfl
theorem Ka29p : updOk ⟨heapOf (after Ka29o Ka29u), 161, 0⟩ Ka29u = true := by kernel_rfl
theorem Ka29k : keptOk ⟨heapOf (after Ka29o Ka29u), 161, 0⟩ Ka29u Ka29o = true := by kernel_rfl
def Ka30a : List SV := [p 0 0, .agg [n 1, n 1, z, z, ff, t #[]]]
def Ka30o : List (Nat × SObj) := [(0, KaS140), (1, KaS0), (2, KaS1), (3, KaS2), (4, KaS100), (5, KaS101), (6, KaS141), (7, KaS114), (8, C [z, z, z, z, z] 269), (9, M [] 9), (10, M [] 4), (11, KaS104), (12, M [] 5), (13, M [] 5), (14, C [z, z, z, z] 9), (15, KaS46), (16, M [] 4), (17, KaS3), (18, KaS106), (19, KaS47), (20, KaS5), (21, KaS45), (22, KaS93), (23, KaS107), (24, KaS25), (25, KaS59), (26, KaS60), (27, KaS76), (28, KaS77), (29, KaS94), (30, KaS108), (31, KaS115)]
def Ka30x : SV := .tuple [ns, z]
def Ka30u : List (Nat × Option SObj) := [(0, some (KaS142)), (6, some (KaS143))]
theorem Ka30r (σ : Sig) : endOkS (env σ) (KaC σ) Tryz.f29.ntmps KaSl29 Tryz.f29.results.toList KaB29 (cutSt (Sym.frameOf Ka30a KaSl29) Ka30o 32) Ka30x (after Ka30o Ka30u) 161 = true := by kernel_rfl
theorem Ka30p : updOk ⟨heapOf (after Ka30o Ka30u), 161, 0⟩ Ka30u = true := by kernel_rfl
theorem Ka30k : keptOk ⟨heapOf (after Ka30o Ka30u), 161, 0⟩ Ka30u Ka30o = true := by kernel_rfl
def Ka31a : List SV := [p 0 0, .agg [n 1, n 1, z, z, ff, t #[]]]
def Ka31o : List (Nat × SObj) := [(0, KaS142), (1, KaS0), (2, KaS1), (3, KaS2), (4, KaS100), (5, KaS101), (6, KaS143), (7, KaS114), (8, C [z, z, z, z, z] 269), (9, M [] 9), (10, M [] 4), (11, KaS104), (12, M [] 5), (13, M [] 5), (14, C [z, z, z, z] 9), (15, KaS46), (16, M [] 4), (17, KaS3), (18, KaS106), (19, KaS47), (20, KaS5), (21, KaS45), (22, KaS93), (23, KaS107), (24, KaS25), (25, KaS59), (26, KaS60), (27, KaS76), (28, KaS77), (29, KaS94), (30, KaS108), (31, KaS115)]
def Ka31x : SV := .tuple [e 245 0 1 8 1, z]
def Ka31u : List (Nat × Option SObj) := [(0, some (KaS144)), (245, some (C [n 1, n 1026, n 1, n 1026, n 1, n 6, z, z] 213)), (4, some (KaS145)), (5, some (KaS146)), (6, some (C [n 1026, n 1027, n 8, p 15 0, .map 16, ns, ns, ns, e 148 0 2 1 2, e 174 0 2 1 2, ns, ns, ns, ns, ns, ns, ns, ns, ns, ns, ns, ns, ns, ns, ns, ns, ns, ns, ns, ns, ns, ns, ns, ns, ns, ns, ns, ns, ns, ns, ns, ns, ns, ns, ns, ns, ns, ns, ns, ns, ns, ns, ns, ns, ns, ns, ns, ns, ns, ns, ns, ns, ns, ns, ns, ns, ns, ns, ns, ns, ns, ns, ns, ns, ns, ns, ns, ns, ns, ns, ns, ns, ns, ns, ns, ns, ns, ns, ns, ns, ns, ns, ns, ns, ns, ns, ns, ns, ns, ns, ns, ns, ns, ns, ns, ns, ns, ns, ns, ns, ns, ns, ns, ns, ns, ns, ns, ns, ns, ns, ns, ns, ns, ns, ns, ns, ns, ns, ns, ns, ns, ns, ns, ns, ns, ns, ns, ns, ns, ns, ns, ns, ns, ns, ns, ns, ns, ns, ns, ns, ns, ns, ns, ns, ns, ns, ns, ns, ns, ns, ns, ns, ns, ns, ns, ns, ns, ns, ns, ns, ns, ns, ns, ns, ns, ns, ns, ns, ns, ns, ns, ns, ns, ns, ns, ns, ns, ns, ns, ns, ns, ns, ns, ns, ns, ns, ns, ns, ns, ns, ns, ns, ns, ns, ns, ns, ns, ns, ns, ns, ns, ns, ns, ns, ns, ns, ns, ns, ns, ns, ns, ns, ns, ns, ns, ns, ns, ns, ns, ns, ns, ns, ns, ns, ns, ns, ns, ns, ns, ns, ns, ns, ns, ns, ns, ns, ns, ns, ns, ns, ns, ns, ns, ns, ns, ns, ns, ns, ns, ns, ns, u 24, uz, uz, uz, ns] 396)), (7, some (KaS147)), (8, some (KaS148)), (9, some (KaS149)), (10, some (KaS150)), (12, some (M [] 6)), (13, some (M [] 6)), (15, some (KaS151)), (16, some (M [(n 8195, p 70 0, 4), (n 8192, p 120 0, 5), (n 8194, p 146 0, 6), (n 8193, p 172 0, 7)] 8)), (148, some (C [p 120 0, p 146 0] 627)), (174, some (C [p 70 0, p 172 0] 627)), (17, some (KaS18)), (18, some (KaS152)), (21, some (KaS153)), (70, some (KaS154)), (120, some (KaS155)), (146, some (KaS156)), (172, some (KaS157)), (24, some (KaS158)), (25, some (KaS159))]
theorem Ka31r (σ : Sig) : endOkS (env σ) (KaC σ) Tryz.f29.ntmps KaSl29 Tryz.f29.results.toList KaB29 (cutSt (Sym.frameOf Ka31a KaSl29) Ka31o 32) Ka31x (after Ka31o Ka31u) 246 = true := by kernel_rfl
theorem Ka31p : updOk ⟨heapOf (after Ka31o Ka31u), 246, 0⟩ Ka31u = true := by kernel_rfl
theorem Ka31k : keptOk ⟨heapOf (after Ka31o Ka31u), 246, 0⟩ Ka31u Ka31o = true := by kernel_rfl
end Go.Proofs.YthblcnkmhnpgiaaGreatDoor
