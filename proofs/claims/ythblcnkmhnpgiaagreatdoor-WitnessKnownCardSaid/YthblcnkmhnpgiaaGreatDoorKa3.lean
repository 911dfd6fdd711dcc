/- Calls, each by one run. -/
import Derived.Test.YthblcnkmhnpgiaaGreatDoorKaO
set_option linter.all false
set_option maxRecDepth 100000
namespace Go.Proofs.YthblcnkmhnpgiaaGreatDoor
open Go.RX
open Ab
def Ka32a : List SV := [p 0 0, .agg [n 1, n 1, z, z, ff, t #[]]]
def Ka32o : List (Nat × SObj) := [(0, KaS144), (1, KaS0), (2, KaS1), (3, KaS2), (4, KaS145), (5, KaS146), (6, C [n 1026, n 1027, n 8, p 15 0, .map 16, ns, ns, ns, e 17 0 2 1 2, e 18 0 2 1 2, ns, ns, ns, ns, ns, ns, ns, ns, ns, ns, ns, ns, ns, ns, ns, ns, ns, ns, ns, ns, ns, ns, ns, ns, ns, ns, ns, ns, ns, ns, ns, ns, ns, ns, ns, ns, ns, ns, ns, ns, ns, ns, ns, ns, ns, ns, ns, ns, ns, ns, ns, ns, ns, ns, ns, ns, ns, ns, ns, ns, ns, ns, ns, ns, ns, ns, ns, ns, ns, ns, ns, ns, ns, ns, ns, ns, ns, ns, ns, ns, ns, ns, ns, ns, ns, ns, ns, ns, ns, ns, ns, ns, ns, ns, ns, ns, ns, ns, ns, ns, ns, ns, ns, ns, ns, ns, ns, ns, ns, ns, ns, ns, ns, ns, ns, ns, ns, ns, ns, ns, ns, ns, ns, ns, ns, ns, ns, ns, ns, ns, ns, ns, ns, ns, ns, ns, ns, ns, ns, ns, ns, ns, ns, ns, ns, ns, ns, ns, ns, ns, ns, ns, ns, ns, ns, ns, ns, ns, ns, ns, ns, ns, ns, ns, ns, ns, ns, ns, ns, ns, ns, ns, ns, ns, ns, ns, ns, ns, ns, ns, ns, ns, ns, ns, ns, ns, ns, ns, ns, ns, ns, ns, ns, ns, ns, ns, ns, ns, ns, ns, ns, ns, ns, ns, ns, ns, ns, ns, ns, ns, ns, ns, ns, ns, ns, ns, ns, ns, ns, ns, ns, ns, ns, ns, ns, ns, ns, ns, ns, ns, ns, ns, ns, ns, ns, ns, ns, ns, ns, ns, ns, ns, ns, ns, ns, ns, ns, ns, ns, ns, ns, u 24, uz, uz, uz, ns] 396), (7, C [p 19 0, n 1, p 20 0, e 21 0 5 2 5, e 22 0 5 1 5, n 1026] 340), (8, KaS148), (9, KaS149), (10, KaS150), (11, KaS104), (12, M [] 6), (13, M [] 6), (14, C [z, z, z, z] 9), (15, KaS27), (16, M [(n 8195, p 24 0, 4), (n 8192, p 25 0, 5), (n 8194, p 26 0, 6), (n 8193, p 27 0, 7)] 8), (17, C [p 25 0, p 26 0] 627), (18, C [p 24 0, p 27 0] 627), (19, KaS18), (20, KaS152), (21, KaS28), (22, KaS5), (23, KaS153), (24, KaS154), (25, KaS155), (26, KaS156), (27, KaS157), (28, KaS93), (29, KaS107), (30, KaS158), (31, KaS159), (32, KaS60), (33, KaS76), (34, KaS77), (35, KaS94), (36, KaS108), (37, KaS115)]
def Ka32x : SV := .tuple [ns, z]
def Ka32u : List (Nat × Option SObj) := [(0, some (KaS160)), (4, some (KaS161)), (5, some (KaS162)), (6, some (C [n 1027, n 1028, n 8, p 15 0, .map 16, ns, ns, ns, ns, e 18 0 2 1 2, ns, ns, ns, ns, ns, ns, ns, ns, ns, ns, ns, ns, ns, ns, ns, ns, ns, ns, ns, ns, ns, ns, ns, ns, ns, ns, ns, ns, ns, ns, ns, ns, ns, ns, ns, ns, ns, ns, ns, ns, ns, ns, ns, ns, ns, ns, ns, ns, ns, ns, ns, ns, ns, ns, ns, ns, ns, ns, ns, ns, ns, ns, ns, ns, ns, ns, ns, ns, ns, ns, ns, ns, ns, ns, ns, ns, ns, ns, ns, ns, ns, ns, ns, ns, ns, ns, ns, ns, ns, ns, ns, ns, ns, ns, ns, ns, ns, ns, ns, ns, ns, ns, ns, ns, ns, ns, ns, ns, ns, ns, ns, ns, ns, ns, ns, ns, ns, ns, ns, ns, ns, ns, ns, ns, ns, ns, ns, ns, ns, ns, ns, ns, ns, ns, ns, ns, ns, ns, ns, ns, ns, ns, ns, ns, ns, ns, ns, ns, ns, ns, ns, ns, ns, ns, ns, ns, ns, ns, ns, ns, ns, ns, ns, ns, ns, ns, ns, ns, ns, ns, ns, ns, ns, ns, ns, ns, ns, ns, ns, ns, ns, ns, ns, ns, ns, ns, ns, ns, ns, ns, ns, ns, ns, ns, ns, ns, ns, ns, ns, ns, ns, ns, ns, ns, ns, ns, ns, ns, ns, ns, ns, ns, ns, ns, ns, ns, ns, ns, ns, ns, ns, ns, ns, ns, ns, ns, ns, ns, ns, ns, ns, ns, ns, ns, ns, ns, ns, ns, ns, ns, ns, ns, ns, ns, ns, ns, ns, ns, ns, ns, ns, u 16, uz, uz, uz, ns] 396)), (9, some (KaS163)), (10, some (KaS164)), (11, some (KaS165)), (12, some (KaS166)), (13, some (KaS167)), (14, some (C [n 14, n 15, z, z] 9)), (15, some (KaS35)), (16, some (M [(n 8195, p 24 0, 4), (n 8193, p 27 0, 7)] 8)), (23, some (KaS168)), (17, none), (25, none), (26, none)]
theorem Ka32r (σ : Sig) : endOkS (env σ) (KaC σ) Tryz.f29.ntmps KaSl29 Tryz.f29.results.toList KaB29 (cutSt (Sym.frameOf Ka32a KaSl29) Ka32o 38) Ka32x (after Ka32o Ka32u) 242 = true := by kernel_rfl
theorem Ka32p : updOk ⟨heapOf (after Ka32o Ka32u), 242, 0⟩ Ka32u = true := by kernel_rfl
theorem Ka32k : keptOk ⟨heapOf (after Ka32o Ka32u), 242, 0⟩ Ka32u Ka32o = true := by kernel_rfl
def Ka33a : List SV := [p 0 0, .agg [n 1, n 1, z, z, ff, t #[]]]
def Ka33o : List (Nat × SObj) := [(0, KaS160), (1, KaS0), (2, KaS1), (3, KaS2), (4, KaS161), (5, KaS162), (6, C [n 1027, n 1028, n 8, p 15 0, .map 16, ns, ns, ns, ns, e 17 0 2 1 2, ns, ns, ns, ns, ns, ns, ns, ns, ns, ns, ns, ns, ns, ns, ns, ns, ns, ns, ns, ns, ns, ns, ns, ns, ns, ns, ns, ns, ns, ns, ns, ns, ns, ns, ns, ns, ns, ns, ns, ns, ns, ns, ns, ns, ns, ns, ns, ns, ns, ns, ns, ns, ns, ns, ns, ns, ns, ns, ns, ns, ns, ns, ns, ns, ns, ns, ns, ns, ns, ns, ns, ns, ns, ns, ns, ns, ns, ns, ns, ns, ns, ns, ns, ns, ns, ns, ns, ns, ns, ns, ns, ns, ns, ns, ns, ns, ns, ns, ns, ns, ns, ns, ns, ns, ns, ns, ns, ns, ns, ns, ns, ns, ns, ns, ns, ns, ns, ns, ns, ns, ns, ns, ns, ns, ns, ns, ns, ns, ns, ns, ns, ns, ns, ns, ns, ns, ns, ns, ns, ns, ns, ns, ns, ns, ns, ns, ns, ns, ns, ns, ns, ns, ns, ns, ns, ns, ns, ns, ns, ns, ns, ns, ns, ns, ns, ns, ns, ns, ns, ns, ns, ns, ns, ns, ns, ns, ns, ns, ns, ns, ns, ns, ns, ns, ns, ns, ns, ns, ns, ns, ns, ns, ns, ns, ns, ns, ns, ns, ns, ns, ns, ns, ns, ns, ns, ns, ns, ns, ns, ns, ns, ns, ns, ns, ns, ns, ns, ns, ns, ns, ns, ns, ns, ns, ns, ns, ns, ns, ns, ns, ns, ns, ns, ns, ns, ns, ns, ns, ns, ns, ns, ns, ns, ns, ns, ns, ns, ns, ns, ns, ns, u 16, uz, uz, uz, ns] 396), (7, C [p 18 0, n 1, p 19 0, e 20 0 5 2 5, e 21 0 5 1 5, n 1026] 340), (8, KaS148), (9, KaS163), (10, KaS164), (11, KaS165), (12, KaS166), (13, KaS167), (14, C [n 14, n 15, z, z] 9), (15, KaS37), (16, M [(n 8195, p 23 0, 4), (n 8193, p 24 0, 7)] 8), (17, C [p 23 0, p 24 0] 627), (18, KaS18), (19, KaS152), (20, KaS38), (21, KaS5), (22, KaS168), (23, KaS154), (24, KaS157), (25, KaS93), (26, KaS107), (27, KaS158), (28, KaS159), (29, KaS60), (30, KaS76), (31, KaS77), (32, KaS94), (33, KaS108), (34, KaS115)]
def Ka33x : SV := .tuple [ns, z]
def Ka33u : List (Nat × Option SObj) := [(0, some (KaS169)), (4, some (KaS170)), (5, some (KaS171)), (6, some (KaS172)), (9, some (KaS173)), (10, some (M [] 8)), (11, some (KaS174)), (12, some (KaS175)), (13, some (KaS176)), (14, some (KaS177)), (15, some (C [tt, s 22 0 5 5, n 1, n 4, z, z] 558)), (16, some (M [] 8)), (22, some (KaS178)), (17, none), (23, none), (24, none)]
theorem Ka33r (σ : Sig) : endOkS (env σ) (KaC σ) Tryz.f29.ntmps KaSl29 Tryz.f29.results.toList KaB29 (cutSt (Sym.frameOf Ka33a KaSl29) Ka33o 35) Ka33x (after Ka33o Ka33u) 289 = true := by kernel_rfl
theorem Ka33p : updOk ⟨heapOf (after Ka33o Ka33u), 289, 0⟩ Ka33u = true := by kernel_rfl
theorem Ka33k : keptOk ⟨heapOf (after Ka33o Ka33u), 289, 0⟩ Ka33u Ka33o = true := by kernel_rfl
def Ka34a : List SV := [p 0 0, .agg [n 3, z, z, n 6, tt, t #[]]]
def Ka34o : List (Nat × SObj) := [(0, KaS169), (1, KaS0), (2, KaS1), (3, KaS2), (4, KaS170), (5, KaS171), (6, KaS172), (7, KaS147), (8, KaS148), (9, KaS173), (10, M [] 8), (11, KaS174), (12, KaS175), (13, KaS176), (14, KaS177), (15, KaS179), (16, M [] 8), (17, KaS18), (18, KaS152), (19, KaS47), (20, KaS5), (21, KaS178), (22, KaS93), (23, KaS107), (24, KaS158), (25, KaS159), (26, KaS60), (27, KaS76), (28, KaS77), (29, KaS94), (30, KaS108), (31, KaS115)]
def Ka34x : SV := .tuple [e 119 0 2 8 2, z]
def Ka34u : List (Nat × Option SObj) := [(0, some (KaS180)), (119, some (C [n 2, n 1028, n 1, n 1026, n 1, n 6, z, z, n 1, n 1028, n 2, n 1026, n 1, n 7, z, z] 213)), (4, some (KaS181)), (5, some (KaS182)), (7, some (KaS183)), (8, some (KaS184)), (9, some (KaS185)), (11, some (KaS186)), (12, some (KaS187)), (13, some (KaS188)), (14, some (KaS189)), (17, some (KaS57)), (18, some (KaS190)), (25, some (KaS191)), (26, some (KaS192)), (27, some (KaS191))]
theorem Ka34r (σ : Sig) : endOkS (env σ) (KaC σ) Tryz.f29.ntmps KaSl29 Tryz.f29.results.toList KaB29 (cutSt (Sym.frameOf Ka34a KaSl29) Ka34o 32) Ka34x (after Ka34o Ka34u) 150 = true := by kernel_rfl
theorem Ka34p : updOk ⟨heapOf (after Ka34o Ka34u), 150, 0⟩ Ka34u = true := by kernel_rfl
theorem Ka34k : keptOk ⟨heapOf (after Ka34o Ka34u), 150, 0⟩ Ka34u Ka34o = true := by kernel_rfl
def Ka35a : List SV := [p 0 0, .agg [n 1, n 1, z, z, ff, t #[]]]
def Ka35o : List (Nat × SObj) := [(0, KaS180), (1, KaS0), (2, KaS1), (3, KaS2), (4, KaS181), (5, KaS182), (6, KaS172), (7, KaS183), (8, KaS184), (9, KaS185), (10, M [] 8), (11, KaS186), (12, KaS187), (13, KaS188), (14, KaS189), (15, KaS179), (16, M [] 8), (17, KaS57), (18, KaS190), (19, KaS47), (20, KaS5), (21, KaS178), (22, KaS93), (23, KaS107), (24, KaS158), (25, KaS191), (26, KaS192), (27, KaS191), (28, KaS77), (29, KaS94), (30, KaS108), (31, KaS115)]
def Ka35x : SV := .tuple [ns, z]
def Ka35u : List (Nat × Option SObj) := [(0, some (KaS193)), (6, some (KaS194))]
theorem Ka35r (σ : Sig) : endOkS (env σ) (KaC σ) Tryz.f29.ntmps KaSl29 Tryz.f29.results.toList KaB29 (cutSt (Sym.frameOf Ka35a KaSl29) Ka35o 32) Ka35x (after Ka35o Ka35u) 204 = true := by kernel_rfl
theorem Ka35p : updOk ⟨heapOf (after Ka35o Ka35u), 204, 0⟩ Ka35u = true := by kernel_rfl
theorem Ka35k : keptOk ⟨heapOf (after Ka35o Ka35u), 204, 0⟩ Ka35u Ka35o = true := by kernel_rfl
def Ka36a : List SV := [p 0 0, .agg [n 1, n 1, z, z, ff, t #[]]]
def Ka36o : List (Nat × SObj) := [(0, KaS193), (1, KaS0), (2, KaS1), (3, KaS2), (4, KaS181), (5, KaS182), (6, KaS194), (7, KaS183), (8, KaS184), (9, KaS185), (10, M [] 8), (11, KaS186), (12, KaS187), (13, KaS188), (14, KaS189), (15, KaS179), (16, M [] 8), (17, KaS57), (18, KaS190), (19, KaS47), (20, KaS5), (21, KaS178), (22, KaS93), (23, KaS107), (24, KaS158), (25, KaS191), (26, KaS192), (27, KaS191), (28, KaS77), (29, KaS94), (30, KaS108), (31, KaS115)]
def Ka36x : SV := .tuple [ns, z]
def Ka36u : List (Nat × Option SObj) := [(0, some (KaS195)), (6, some (KaS196))]
theorem Ka36r (σ : Sig) : endOkS (env σ) (KaC σ) Tryz.f29.ntmps KaSl29 Tryz.f29.results.toList KaB29 (cutSt (Sym.frameOf Ka36a KaSl29) Ka36o 32) Ka36x (after Ka36o Ka36u) 204 = true := by kernel_rfl
theorem Ka36p : updOk ⟨heapOf (after Ka36o Ka36u), 204, 0⟩ Ka36u = true := by kernel_rfl
theorem Ka36k : keptOk ⟨heapOf (after Ka36o Ka36u), 204, 0⟩ Ka36u Ka36o = true := by kernel_rfl
def Ka37a : List SV := [p 0 0, .agg [n 3, z, z, n 7, tt, t #[]]]
def Ka37o : List (Nat × SObj) := [(0, KaS195), (1, KaS0), (2, KaS1), (3, KaS2), (4, KaS181), (5, KaS182), (6, KaS196), (7, KaS183), (8, KaS184), (9, KaS185), (10, M [] 8), (11, KaS186), (12, KaS187), (13, KaS188), (14, KaS189), (15, KaS179), (16, M [] 8), (17, KaS57), (18, KaS190), (19, KaS47), (20, KaS5), (21, KaS178), (22, KaS93), (23, KaS107), (24, KaS158), (25, KaS191), (26, KaS192), (27, KaS191), (28, KaS77), (29, KaS94), (30, KaS108), (31, KaS115)]
def Ka37x : SV := .tuple [e 110 0 2 8 2, z]
def Ka37u : List (Nat × Option SObj) := [(0, some (KaS197)), (110, some (C [n 2, n 1030, n 2, n 1026, n 1, n 7, z, z, n 1, n 1030, n 3, n 1026, n 1, n 8, z, z] 213)), (4, some (KaS198)), (5, some (KaS199)), (7, some (KaS200)), (8, some (KaS201)), (9, some (KaS202)), (11, some (KaS203)), (12, some (KaS204)), (13, some (KaS205)), (14, some (C [n 16, n 17, z, z] 9)), (17, some (KaS74)), (18, some (KaS206)), (27, some (KaS207)), (28, some (KaS208)), (29, some (KaS207))]
theorem Ka37r (σ : Sig) : endOkS (env σ) (KaC σ) Tryz.f29.ntmps KaSl29 Tryz.f29.results.toList KaB29 (cutSt (Sym.frameOf Ka37a KaSl29) Ka37o 32) Ka37x (after Ka37o Ka37u) 131 = true := by kernel_rfl
theorem Ka37p : updOk ⟨heapOf (after Ka37o Ka37u), 131, 0⟩ Ka37u = true := by kernel_rfl
theorem Ka37k : keptOk ⟨heapOf (after Ka37o Ka37u), 131, 0⟩ Ka37u Ka37o = true := by kernel_rfl
def Ka38a : List SV := [p 0 0, .agg [n 1, n 1, z, z, ff, t #[]]]
def Ka38o : List (Nat × SObj) := [(0, KaS197), (1, KaS0), (2, KaS1), (3, KaS2), (4, KaS198), (5, KaS199), (6, KaS196), (7, KaS200), (8, KaS201), (9, KaS202), (10, M [] 8), (11, KaS203), (12, KaS204), (13, KaS205), (14, C [n 16, n 17, z, z] 9), (15, KaS179), (16, M [] 8), (17, KaS74), (18, KaS206), (19, KaS47), (20, KaS5), (21, KaS178), (22, KaS93), (23, KaS107), (24, KaS158), (25, KaS191), (26, KaS192), (27, KaS207), (28, KaS208), (29, KaS207), (30, KaS108), (31, KaS115)]
def Ka38x : SV := .tuple [ns, z]
def Ka38u : List (Nat × Option SObj) := [(0, some (KaS209)), (6, some (KaS210))]
theorem Ka38r (σ : Sig) : endOkS (env σ) (KaC σ) Tryz.f29.ntmps KaSl29 Tryz.f29.results.toList KaB29 (cutSt (Sym.frameOf Ka38a KaSl29) Ka38o 32) Ka38x (after Ka38o Ka38u) 194 = true := by kernel_rfl
theorem Ka38p : updOk ⟨heapOf (after Ka38o Ka38u), 194, 0⟩ Ka38u = true := by kernel_rfl
theorem Ka38k : keptOk ⟨heapOf (after Ka38o Ka38u), 194, 0⟩ Ka38u Ka38o = true := by kernel_rfl
def Ka39a : List SV := [p 0 0, .agg [n 1, n 1, z, z, ff, t #[]]]
def Ka39o : List (Nat × SObj) := [(0, KaS209), (1, KaS0), (2, KaS1), (3, KaS2), (4, KaS198), (5, KaS199), (6, KaS210), (7, KaS200), (8, KaS201), (9, KaS202), (10, M [] 8), (11, KaS203), (12, KaS204), (13, KaS205), (14, C [n 16, n 17, z, z] 9), (15, KaS179), (16, M [] 8), (17, KaS74), (18, KaS206), (19, KaS47), (20, KaS5), (21, KaS178), (22, KaS93), (23, KaS107), (24, KaS158), (25, KaS191), (26, KaS192), (27, KaS207), (28, KaS208), (29, KaS207), (30, KaS108), (31, KaS115)]
def Ka39x : SV := .tuple [ns, z]
def Ka39u : List (Nat × Option SObj) := [(0, some (KaS211)), (6, some (KaS212))]
theorem Ka39r (σ : Sig) : endOkS (env σ) (KaC σ) Tryz.f29.ntmps KaSl29 Tryz.f29.results.toList KaB29 (cutSt (Sym.frameOf Ka39a KaSl29) Ka39o 32) Ka39x (after Ka39o Ka39u) 194 = true := by kernel_rfl
theorem Ka39p : updOk ⟨heapOf (after Ka39o Ka39u), 194, 0⟩ Ka39u = true := by kernel_rfl
theorem Ka39k : keptOk ⟨heapOf (after Ka39o Ka39u), 194, 0⟩ Ka39u Ka39o = true := by kernel_rfl
def Ka40a : List SV := [p 0 0, .agg [n 3, z, z, n 8, tt, t #[]]]
def Ka40o : List (Nat × SObj) := [(0, KaS211), (1, KaS0), (2, KaS1), (3, KaS2), (4, KaS198), (5, KaS199), (6, KaS212), (7, KaS200), (8, KaS201), (9, KaS202), (10, M [] 8), (11, KaS203), (12, KaS204), (13, KaS205), (14, C [n 16, n 17, z, z] 9), (15, KaS179), (16, M [] 8), (17, KaS74), (18, KaS206), (19, KaS47), (20, KaS5), (21, KaS178), (22, KaS93), (23, KaS107), (24, KaS158), (25, KaS191), (26, KaS192), (27, KaS207), (28, KaS208), (29, KaS207), (30, KaS108), (31, KaS115)]
def Ka40x : SV := .tuple [e 110 0 2 8 2, z]
def Ka40u : List (Nat × Option SObj) := [(0, some (KaS213)), (110, some (C [n 2, n 1032, n 3, n 1026, n 1, n 8, z, z, n 1, n 1032, z, n 1026, n 1, n 9, z, z] 213)), (4, some (KaS214)), (5, some (KaS215)), (7, some (KaS216)), (8, some (KaS217)), (9, some (KaS218)), (11, some (KaS219)), (12, some (KaS220)), (13, some (KaS221)), (14, some (C [n 17, z, z, z] 9)), (17, some (KaS91)), (18, some (KaS222)), (22, some (KaS223)), (23, some (KaS224)), (29, some (KaS224))]
theorem Ka40r (σ : Sig) : endOkS (env σ) (KaC σ) Tryz.f29.ntmps KaSl29 Tryz.f29.results.toList KaB29 (cutSt (Sym.frameOf Ka40a KaSl29) Ka40o 32) Ka40x (after Ka40o Ka40u) 121 = true := by kernel_rfl
theorem Ka40p : updOk ⟨heapOf (after Ka40o Ka40u), 121, 0⟩ Ka40u = true := by kernel_rfl
theorem Ka40k : keptOk ⟨heapOf (after Ka40o Ka40u), 121, 0⟩ Ka40u Ka40o = true := by kernel_rfl
def Ka41a : List SV := [p 0 0, .agg [n 1, n 1, z, z, ff, t #[]]]
def Ka41o : List (Nat × SObj) := [(0, KaS213), (1, KaS0), (2, KaS1), (3, KaS2), (4, KaS214), (5, KaS215), (6, KaS212), (7, KaS216), (8, KaS217), (9, KaS218), (10, M [] 8), (11, KaS219), (12, KaS220), (13, KaS221), (14, C [n 17, z, z, z] 9), (15, KaS179), (16, M [] 8), (17, KaS91), (18, KaS222), (19, KaS47), (20, KaS5), (21, KaS178), (22, KaS223), (23, KaS224), (24, KaS158), (25, KaS191), (26, KaS192), (27, KaS207), (28, KaS208), (29, KaS224), (30, KaS108), (31, KaS115)]
def Ka41x : SV := .tuple [ns, z]
def Ka41u : List (Nat × Option SObj) := [(0, some (KaS225)), (6, some (KaS226))]
theorem Ka41r (σ : Sig) : endOkS (env σ) (KaC σ) Tryz.f29.ntmps KaSl29 Tryz.f29.results.toList KaB29 (cutSt (Sym.frameOf Ka41a KaSl29) Ka41o 32) Ka41x (after Ka41o Ka41u) 180 = true := by kernel_rfl
theorem Ka41p : updOk ⟨heapOf (after Ka41o Ka41u), 180, 0⟩ Ka41u = true := by kernel_rfl
theorem Ka41k : keptOk ⟨heapOf (after Ka41o Ka41u), 180, 0⟩ Ka41u Ka41o = true := by kernel_rfl
def Ka42a : List SV := [p 0 0, .agg [n 1, n 1, z, z, ff, t #[]]]
def Ka42o : List (Nat × SObj) := [(0, KaS225), (1, KaS0), (2, KaS1), (3, KaS2), (4, KaS214), (5, KaS215), (6, KaS226), (7, KaS216), (8, KaS217), (9, KaS218), (10, M [] 8), (11, KaS219), (12, KaS220), (13, KaS221), (14, C [n 17, z, z, z] 9), (15, KaS179), (16, M [] 8), (17, KaS91), (18, KaS222), (19, KaS47), (20, KaS5), (21, KaS178), (22, KaS223), (23, KaS224), (24, KaS158), (25, KaS191), (26, KaS192), (27, KaS207), (28, KaS208), (29, KaS224), (30, KaS108), (31, KaS115)]
def Ka42x : SV := .tuple [ns, z]
def Ka42u : List (Nat × Option SObj) := [(0, some (KaS227)), (6, some (KaS228))]
theorem Ka42r (σ : Sig) : endOkS (env σ) (KaC σ) Tryz.f29.ntmps KaSl29 Tryz.f29.results.toList KaB29 (cutSt (Sym.frameOf Ka42a KaSl29) Ka42o 32) Ka42x (after Ka42o Ka42u) 180 = true := by kernel_rfl
theorem Ka42p : updOk ⟨heapOf (after Ka42o Ka42u), 180, 0⟩ Ka42u = true := by kernel_rfl
theorem Ka42k : keptOk ⟨heapOf (after Ka42o Ka42u), 180, 0⟩ Ka42u Ka42o = true := by kernel_rfl
def Ka43a : List SV := [p 0 0, .agg [n 3, z, z, n 9, tt, t #[]]]
def Ka43o : List (Nat × SObj) := [(0, KaS227), (1, KaS0), (2, KaS1), (3, KaS2), (4, KaS214), (5, KaS215), (6, KaS228), (7, KaS216), (8, KaS217), (9, KaS218), (10, M [] 8), (11, KaS219), (12, KaS220), (13, KaS221), (14, C [n 17, z, z, z] 9), (15, KaS179), (16, M [] 8), (17, KaS91), (18, KaS222), (19, KaS47), (20, KaS5), (21, KaS178), (22, KaS223), (23, KaS224), (24, KaS158), (25, KaS191), (26, KaS192), (27, KaS207), (28, KaS208), (29, KaS224), (30, KaS108), (31, KaS115)]
def Ka43x : SV := .tuple [e 101 0 2 8 2, z]
def Ka43u : List (Nat × Option SObj) := [(0, some (KaS229)), (101, some (C [n 2, n 1034, z, n 1026, n 1, n 9, z, z, n 1, n 1034, n 4, n 1026, n 1, n 10, z, z] 213)), (4, some (KaS230)), (5, some (KaS231)), (7, some (KaS232)), (8, some (KaS233)), (9, some (M [] 18)), (11, some (KaS104)), (12, some (M [] 10)), (13, some (M [] 10)), (14, some (C [z, z, z, z] 9)), (17, some (KaS105)), (18, some (KaS234)), (23, some (KaS235)), (30, some (KaS236)), (31, some (KaS235))]
theorem Ka43r (σ : Sig) : endOkS (env σ) (KaC σ) Tryz.f29.ntmps KaSl29 Tryz.f29.results.toList KaB29 (cutSt (Sym.frameOf Ka43a KaSl29) Ka43o 32) Ka43x (after Ka43o Ka43u) 102 = true := by kernel_rfl
theorem Ka43p : updOk ⟨heapOf (after Ka43o Ka43u), 102, 0⟩ Ka43u = true := by kernel_rfl
theorem Ka43k : keptOk ⟨heapOf (after Ka43o Ka43u), 102, 0⟩ Ka43u Ka43o = true := by kernel_rfl
def Ka44a : List SV := [p 0 0, .agg [n 1, n 1, z, z, ff, t #[]]]
def Ka44o : List (Nat × SObj) := [(0, KaS229), (1, KaS0), (2, KaS1), (3, KaS2), (4, KaS230), (5, KaS231), (6, KaS228), (7, KaS232), (8, KaS233), (9, M [] 18), (10, M [] 8), (11, KaS104), (12, M [] 10), (13, M [] 10), (14, C [z, z, z, z] 9), (15, KaS179), (16, M [] 8), (17, KaS105), (18, KaS234), (19, KaS47), (20, KaS5), (21, KaS178), (22, KaS223), (23, KaS235), (24, KaS158), (25, KaS191), (26, KaS192), (27, KaS207), (28, KaS208), (29, KaS224), (30, KaS236), (31, KaS235)]
def Ka44x : SV := .tuple [ns, z]
def Ka44u : List (Nat × Option SObj) := [(0, some (KaS237)), (6, some (KaS238))]
theorem Ka44r (σ : Sig) : endOkS (env σ) (KaC σ) Tryz.f29.ntmps KaSl29 Tryz.f29.results.toList KaB29 (cutSt (Sym.frameOf Ka44a KaSl29) Ka44o 32) Ka44x (after Ka44o Ka44u) 161 = true := by kernel_rfl
theorem Ka44p : updOk ⟨heapOf (after Ka44o Ka44u), 161, 0⟩ Ka44u = true := by kernel_rfl
theorem Ka44k : keptOk ⟨heapOf (after Ka44o Ka44u), 161, 0⟩ Ka44u Ka44o = true := by kernel_rfl
def Ka45a : List SV := [p 0 0, .agg [n 1, n 1, z, z, ff, t #[]]]
def Ka45o : List (Nat × SObj) := [(0, KaS237), (1, KaS0), (2, KaS1), (3, KaS2), (4, KaS230), (5, KaS231), (6, KaS238), (7, KaS232), (8, KaS233), (9, M [] 18), (10, M [] 8), (11, KaS104), (12, M [] 10), (13, M [] 10), (14, C [z, z, z, z] 9), (15, KaS179), (16, M [] 8), (17, KaS105), (18, KaS234), (19, KaS47), (20, KaS5), (21, KaS178), (22, KaS223), (23, KaS235), (24, KaS158), (25, KaS191), (26, KaS192), (27, KaS207), (28, KaS208), (29, KaS224), (30, KaS236), (31, KaS235)]
def Ka45x : SV := .tuple [ns, z]
def Ka45u : List (Nat × Option SObj) := [(0, some (KaS239)), (6, some (KaS240))]
theorem Ka45r (σ : Sig) : endOkS (env σ) (KaC σ) Tryz.f29.ntmps KaSl29 Tryz.f29.results.toList KaB29 (cutSt (Sym.frameOf Ka45a KaSl29) Ka45o 32) Ka45x (after Ka45o Ka45u) 161 = true := by kernel_rfl
theorem Ka45p : updOk ⟨heapOf (after Ka45o Ka45u), 161, 0⟩ Ka45u = true := by kernel_rfl
theorem Ka45k : keptOk ⟨heapOf (after Ka45o Ka45u), 161, 0⟩ Ka45u Ka45o = true := by kernel_rfl
def Ka46a : List SV := [p 0 0, .agg [n 3, z, z, n 10, tt, t #[]]]
def Ka46o : List (Nat × SObj) := [(0, KaS239), (1, KaS0), (2, KaS1), (3, KaS2), (4, KaS230), (5, KaS231), (6, KaS240), (7, KaS232), (8, KaS233), (9, M [] 18), (10, M [] 8), (11, KaS104), (12, M [] 10), (13, M [] 10), (14, C [z, z, z, z] 9), (15, KaS179), (16, M [] 8), (17, KaS105), (18, KaS234), (19, KaS47), (20, KaS5), (21, KaS178), (22, KaS223), (23, KaS235), (24, KaS158), (25, KaS191), (26, KaS192), (27, KaS207), (28, KaS208), (29, KaS224), (30, KaS236), (31, KaS235)]
def Ka46x : SV := .tuple [e 47 0 1 8 1, z]
def Ka46u : List (Nat × Option SObj) := [(0, some (KaS241)), (47, some (C [n 2, n 1036, n 4, n 1026, n 1, n 10, z, z] 213)), (7, some (KaS242)), (8, some (C [z, z, z, z, z] 269)), (17, some (KaS3)), (31, some (KaS243))]
theorem Ka46r (σ : Sig) : endOkS (env σ) (KaC σ) Tryz.f29.ntmps KaSl29 Tryz.f29.results.toList KaB29 (cutSt (Sym.frameOf Ka46a KaSl29) Ka46o 32) Ka46x (after Ka46o Ka46u) 51 = true := by kernel_rfl
theorem Ka46p : updOk ⟨heapOf (after Ka46o Ka46u), 51, 0⟩ Ka46u = true := by kernel_rfl
theorem Ka46k : keptOk ⟨heapOf (after Ka46o Ka46u), 51, 0⟩ Ka46u Ka46o = true := by kernel_rfl
def Ka47a : List SV := [p 0 0, .agg [n 1, n 1, z, z, ff, t #[]]]
def Ka47o : List (Nat × SObj) := [(0, KaS241), (1, KaS0), (2, KaS1), (3, KaS2), (4, KaS230), (5, KaS231), (6, KaS240), (7, KaS242), (8, C [z, z, z, z, z] 269), (9, M [] 18), (10, M [] 8), (11, KaS104), (12, M [] 10), (13, M [] 10), (14, C [z, z, z, z] 9), (15, KaS179), (16, M [] 8), (17, KaS3), (18, KaS234), (19, KaS47), (20, KaS5), (21, KaS178), (22, KaS223), (23, KaS235), (24, KaS158), (25, KaS191), (26, KaS192), (27, KaS207), (28, KaS208), (29, KaS224), (30, KaS236), (31, KaS243)]
def Ka47x : SV := .tuple [ns, z]
def Ka47u : List (Nat × Option SObj) := [(0, some (KaS244)), (6, some (KaS245))]
theorem Ka47r (σ : Sig) : endOkS (env σ) (KaC σ) Tryz.f29.ntmps KaSl29 Tryz.f29.results.toList KaB29 (cutSt (Sym.frameOf Ka47a KaSl29) Ka47o 32) Ka47x (after Ka47o Ka47u) 161 = true := by kernel_rfl
theorem Ka47p : updOk ⟨heapOf (after Ka47o Ka47u), 161, 0⟩ Ka47u = true := by kernel_rfl
theorem Ka47k : keptOk ⟨heapOf (after Ka47o Ka47u), 161, 0⟩ Ka47u Ka47o = true := by kernel_rfl
end Go.Proofs.YthblcnkmhnpgiaaGreatDoor
