/- Calls, each by one run. -/
import Derived.Test.YthblcnkmhnpgiaaGreatDoorKaO
set_option linter.all false
set_option maxRecDepth 100000
namespace Go.Proofs.YthblcnkmhnpgiaaGreatDoor
open Go.RX
open Ab
def Ka64a : List SV := [p 0 0, .agg [n 3, z, z, n 11, tt, t #[]]]
def Ka64o : List (Nat × SObj) := [(0, KaS296), (1, KaS0), (2, KaS1), (3, KaS2), (4, KaS297), (5, KaS298), (6, KaS299), (7, KaS275), (8, KaS276), (9, KaS300), (10, M [] 12), (11, KaS301), (12, KaS302), (13, KaS303), (14, KaS304), (15, KaS306), (16, M [] 12), (17, KaS18), (18, KaS279), (19, KaS47), (20, KaS5), (21, KaS305), (22, KaS223), (23, KaS235), (24, KaS285), (25, KaS286), (26, KaS192), (27, KaS207), (28, KaS208), (29, KaS224), (30, KaS236), (31, KaS243)]
def Ka64x : SV := .tuple [e 119 0 2 8 2, z]
def Ka64u : List (Nat × Option SObj) := [(0, some (KaS307)), (119, some (C [n 2, n 1053, n 1, n 1051, n 1, n 11, z, z, n 1, n 1053, n 2, n 1051, n 1, n 12, z, z] 213)), (4, some (KaS308)), (5, some (KaS309)), (7, some (KaS310)), (8, some (KaS311)), (9, some (KaS312)), (11, some (KaS313)), (12, some (KaS314)), (13, some (KaS315)), (14, some (KaS316)), (17, some (KaS57)), (18, some (KaS317)), (25, some (KaS318)), (26, some (KaS319)), (27, some (KaS318))]
theorem Ka64r (σ : Sig) : endOkS (env σ) (KaC σ) Tryz.f29.ntmps KaSl29 Tryz.f29.results.toList KaB29 (cutSt (Sym.frameOf Ka64a KaSl29) Ka64o 32) Ka64x (after Ka64o Ka64u) 150 = true := by kernel_rfl
theorem Ka64p : updOk ⟨heapOf (after Ka64o Ka64u), 150, 0⟩ Ka64u = true := by kernel_rfl
theorem Ka64k : keptOk ⟨heapOf (after Ka64o Ka64u), 150, 0⟩ Ka64u Ka64o = true := by kernel_rfl
def Ka65a : List SV := [p 0 0, .agg [n 1, n 1, z, z, ff, t #[]]]
def Ka65o : List (Nat × SObj) := [(0, KaS307), (1, KaS0), (2, KaS1), (3, KaS2), (4, KaS308), (5, KaS309), (6, KaS299), (7, KaS310), (8, KaS311), (9, KaS312), (10, M [] 12), (11, KaS313), (12, KaS314), (13, KaS315), (14, KaS316), (15, KaS306), (16, M [] 12), (17, KaS57), (18, KaS317), (19, KaS47), (20, KaS5), (21, KaS305), (22, KaS223), (23, KaS235), (24, KaS285), (25, KaS318), (26, KaS319), (27, KaS318), (28, KaS208), (29, KaS224), (30, KaS236), (31, KaS243)]
def Ka65x : SV := .tuple [ns, z]
def Ka65u : List (Nat × Option SObj) := [(0, some (KaS320)), (6, some (KaS321))]
theorem Ka65r (σ : Sig) : endOkS (env σ) (KaC σ) Tryz.f29.ntmps KaSl29 Tryz.f29.results.toList KaB29 (cutSt (Sym.frameOf Ka65a KaSl29) Ka65o 32) Ka65x (after Ka65o Ka65u) 204 = true := by kernel_rfl
theorem Ka65p : updOk ⟨heapOf (after Ka65o Ka65u), 204, 0⟩ Ka65u = true := by kernel_rfl
theorem Ka65k : keptOk ⟨heapOf (after Ka65o Ka65u), 204, 0⟩ Ka65u Ka65o = true := by kernel_rfl
def Ka66a : List SV := [p 0 0, .agg [n 1, n 1, z, z, ff, t #[]]]
def Ka66o : List (Nat × SObj) := [(0, KaS320), (1, KaS0), (2, KaS1), (3, KaS2), (4, KaS308), (5, KaS309), (6, KaS321), (7, KaS310), (8, KaS311), (9, KaS312), (10, M [] 12), (11, KaS313), (12, KaS314), (13, KaS315), (14, KaS316), (15, KaS306), (16, M [] 12), (17, KaS57), (18, KaS317), (19, KaS47), (20, KaS5), (21, KaS305), (22, KaS223), (23, KaS235), (24, KaS285), (25, KaS318), (26, KaS319), (27, KaS318), (28, KaS208), (29, KaS224), (30, KaS236), (31, KaS243)]
def Ka66x : SV := .tuple [ns, z]
def Ka66u : List (Nat × Option SObj) := [(0, some (KaS322)), (6, some (KaS323))]
theorem Ka66r (σ : Sig) : endOkS (env σ) (KaC σ) Tryz.f29.ntmps KaSl29 Tryz.f29.results.toList KaB29 (cutSt (Sym.frameOf Ka66a KaSl29) Ka66o 32) Ka66x (after Ka66o Ka66u) 204 = true := by kernel_rfl
theorem Ka66p : updOk ⟨heapOf (after Ka66o Ka66u), 204, 0⟩ Ka66u = true := by kernel_rfl
theorem Ka66k : keptOk ⟨heapOf (after Ka66o Ka66u), 204, 0⟩ Ka66u Ka66o = true := by kernel_rfl
def Ka67a : List SV := [p 0 0, .agg [n 3, z, z, n 12, tt, t #[]]]
def Ka67o : List (Nat × SObj) := [(0, KaS322), (1, KaS0), (2, KaS1), (3, KaS2), (4, KaS308), (5, KaS309), (6, KaS323), (7, KaS310), (8, KaS311), (9, KaS312), (10, M [] 12), (11, KaS313), (12, KaS314), (13, KaS315), (14, KaS316), (15, KaS306), (16, M [] 12), (17, KaS57), (18, KaS317), (19, KaS47), (20, KaS5), (21, KaS305), (22, KaS223), (23, KaS235), (24, KaS285), (25, KaS318), (26, KaS319), (27, KaS318), (28, KaS208), (29, KaS224), (30, KaS236), (31, KaS243)]
def Ka67x : SV := .tuple [e 110 0 2 8 2, z]
def Ka67u : List (Nat × Option SObj) := [(0, some (KaS324)), (110, some (C [n 2, n 1055, n 2, n 1051, n 1, n 12, z, z, n 1, n 1055, n 3, n 1051, n 1, n 13, z, z] 213)), (4, some (KaS325)), (5, some (KaS326)), (7, some (KaS327)), (8, some (KaS328)), (9, some (KaS329)), (11, some (KaS330)), (12, some (KaS331)), (13, some (KaS332)), (14, some (C [n 25, n 26, z, z] 9)), (17, some (KaS74)), (18, some (KaS333)), (27, some (KaS334)), (28, some (KaS335)), (29, some (KaS334))]
theorem Ka67r (σ : Sig) : endOkS (env σ) (KaC σ) Tryz.f29.ntmps KaSl29 Tryz.f29.results.toList KaB29 (cutSt (Sym.frameOf Ka67a KaSl29) Ka67o 32) Ka67x (after Ka67o Ka67u) 131 = true := by kernel_rfl
theorem Ka67p : updOk ⟨heapOf (after Ka67o Ka67u), 131, 0⟩ Ka67u = true := by kernel_rfl
theorem Ka67k : keptOk ⟨heapOf (after Ka67o Ka67u), 131, 0⟩ Ka67u Ka67o = true := by kernel_rfl
def Ka68a : List SV := [p 0 0, .agg [n 1, n 1, z, z, ff, t #[]]]
def Ka68o : List (Nat × SObj) := [(0, KaS324), (1, KaS0), (2, KaS1), (3, KaS2), (4, KaS325), (5, KaS326), (6, KaS323), (7, KaS327), (8, KaS328), (9, KaS329), (10, M [] 12), (11, KaS330), (12, KaS331), (13, KaS332), (14, C [n 25, n 26, z, z] 9), (15, KaS306), (16, M [] 12), (17, KaS74), (18, KaS333), (19, KaS47), (20, KaS5), (21, KaS305), (22, KaS223), (23, KaS235), (24, KaS285), (25, KaS318), (26, KaS319), (27, KaS334), (28, KaS335), (29, KaS334), (30, KaS236), (31, KaS243)]
def Ka68x : SV := .tuple [ns, z]
def Ka68u : List (Nat × Option SObj) := [(0, some (KaS336)), (6, some (KaS337))]
theorem Ka68r (σ : Sig) : endOkS (env σ) (KaC σ) Tryz.f29.ntmps KaSl29 Tryz.f29.results.toList KaB29 (cutSt (Sym.frameOf Ka68a KaSl29) Ka68o 32) Ka68x (after Ka68o Ka68u) 194 = true := by kernel_rfl
theorem Ka68p : updOk ⟨heapOf (after Ka68o Ka68u), 194, 0⟩ Ka68u = true := by kernel_rfl
theorem Ka68k : keptOk ⟨heapOf (after Ka68o Ka68u), 194, 0⟩ Ka68u Ka68o = true := by kernel_rfl
def Ka69a : List SV := [p 0 0, .agg [n 1, n 1, z, z, ff, t #[]]]
def Ka69o : List (Nat × SObj) := [(0, KaS336), (1, KaS0), (2, KaS1), (3, KaS2), (4, KaS325), (5, KaS326), (6, KaS337), (7, KaS327), (8, KaS328), (9, KaS329), (10, M [] 12), (11, KaS330), (12, KaS331), (13, KaS332), (14, C [n 25, n 26, z, z] 9), (15, KaS306), (16, M [] 12), (17, KaS74), (18, KaS333), (19, KaS47), (20, KaS5), (21, KaS305), (22, KaS223), (23, KaS235), (24, KaS285), (25, KaS318), (26, KaS319), (27, KaS334), (28, KaS335), (29, KaS334), (30, KaS236), (31, KaS243)]
def Ka69x : SV := .tuple [ns, z]
def Ka69u : List (Nat × Option SObj) := [(0, some (KaS338)), (6, some (KaS339))]
theorem Ka69r (σ : Sig) : endOkS (env σ) (KaC σ) Tryz.f29.ntmps KaSl29 Tryz.f29.results.toList KaB29 (cutSt (Sym.frameOf Ka69a KaSl29) Ka69o 32) Ka69x (after Ka69o Ka69u) 194 = true := by kernel_rfl
theorem Ka69p : updOk ⟨heapOf (after Ka69o Ka69u), 194, 0⟩ Ka69u = true := by kernel_rfl
theorem Ka69k : keptOk ⟨heapOf (after Ka69o Ka69u), 194, 0⟩ Ka69u Ka69o = true := by kernel_rfl
def Ka70a : List SV := [p 0 0, .agg [n 3, z, z, n 13, tt, t #[]]]
def Ka70o : List (Nat × SObj) := [(0, KaS338), (1, KaS0), (2, KaS1), (3, KaS2), (4, KaS325), (5, KaS326), (6, KaS339), (7, KaS327), (8, KaS328), (9, KaS329), (10, M [] 12), (11, KaS330), (12, KaS331), (13, KaS332), (14, C [n 25, n 26, z, z] 9), (15, KaS306), (16, M [] 12), (17, KaS74), (18, KaS333), (19, KaS47), (20, KaS5), (21, KaS305), (22, KaS223), (23, KaS235), (24, KaS285), (25, KaS318), (26, KaS319), (27, KaS334), (28, KaS335), (29, KaS334), (30, KaS236), (31, KaS243)]
def Ka70x : SV := .tuple [e 110 0 2 8 2, z]
def Ka70u : List (Nat × Option SObj) := [(0, some (KaS340)), (110, some (C [n 2, n 1057, n 3, n 1051, n 1, n 13, z, z, n 1, n 1057, z, n 1051, n 1, n 14, z, z] 213)), (4, some (KaS341)), (5, some (KaS342)), (7, some (KaS343)), (8, some (KaS344)), (9, some (KaS345)), (11, some (KaS346)), (12, some (KaS347)), (13, some (KaS348)), (14, some (C [n 26, z, z, z] 9)), (17, some (KaS91)), (18, some (KaS349)), (22, some (KaS350)), (23, some (KaS351)), (29, some (KaS351))]
theorem Ka70r (σ : Sig) : endOkS (env σ) (KaC σ) Tryz.f29.ntmps KaSl29 Tryz.f29.results.toList KaB29 (cutSt (Sym.frameOf Ka70a KaSl29) Ka70o 32) Ka70x (after Ka70o Ka70u) 121 = true := by kernel_rfl
theorem Ka70p : updOk ⟨heapOf (after Ka70o Ka70u), 121, 0⟩ Ka70u = true := by kernel_rfl
theorem Ka70k : keptOk ⟨heapOf (after Ka70o Ka70u), 121, 0⟩ Ka70u Ka70o = true := by kernel_rfl
def Ka71a : List SV := [p 0 0, .agg [n 1, n 1, z, z, ff, t #[]]]
def Ka71o : List (Nat × SObj) := [(0, KaS340), (1, KaS0), (2, KaS1), (3, KaS2), (4, KaS341), (5, KaS342), (6, KaS339), (7, KaS343), (8, KaS344), (9, KaS345), (10, M [] 12), (11, KaS346), (12, KaS347), (13, KaS348), (14, C [n 26, z, z, z] 9), (15, KaS306), (16, M [] 12), (17, KaS91), (18, KaS349), (19, KaS47), (20, KaS5), (21, KaS305), (22, KaS350), (23, KaS351), (24, KaS285), (25, KaS318), (26, KaS319), (27, KaS334), (28, KaS335), (29, KaS351), (30, KaS236), (31, KaS243)]
def Ka71x : SV := .tuple [ns, z]
def Ka71u : List (Nat × Option SObj) := [(0, some (KaS352)), (6, some (KaS353))]
theorem Ka71r (σ : Sig) : endOkS (env σ) (KaC σ) Tryz.f29.ntmps KaSl29 Tryz.f29.results.toList KaB29 (cutSt (Sym.frameOf Ka71a KaSl29) Ka71o 32) Ka71x (after Ka71o Ka71u) 180 = true := by kernel_rfl
theorem Ka71p : updOk ⟨heapOf (after Ka71o Ka71u), 180, 0⟩ Ka71u = true := by kernel_rfl
theorem Ka71k : keptOk ⟨heapOf (after Ka71o Ka71u), 180, 0⟩ Ka71u Ka71o = true := by kernel_rfl
def Ka72a : List SV := [p 0 0, .agg [n 1, n 1, z, z, ff, t #[]]]
def Ka72o : List (Nat × SObj) := [(0, KaS352), (1, KaS0), (2, KaS1), (3, KaS2), (4, KaS341), (5, KaS342), (6, KaS353), (7, KaS343), (8, KaS344), (9, KaS345), (10, M [] 12), (11, KaS346), (12, KaS347), (13, KaS348), (14, C [n 26, z, z, z] 9), (15, KaS306), (16, M [] 12), (17, KaS91), (18, KaS349), (19, KaS47), (20, KaS5), (21, KaS305), (22, KaS350), (23, KaS351), (24, KaS285), (25, KaS318), (26, KaS319), (27, KaS334), (28, KaS335), (29, KaS351), (30, KaS236), (31, KaS243)]
def Ka72x : SV := .tuple [ns, z]
def Ka72u : List (Nat × Option SObj) := [(0, some (KaS354)), (6, some (KaS355))]
theorem Ka72r (σ : Sig) : endOkS (env σ) (KaC σ) Tryz.f29.ntmps KaSl29 Tryz.f29.results.toList KaB29 (cutSt (Sym.frameOf Ka72a KaSl29) Ka72o 32) Ka72x (after Ka72o Ka72u) 180 = true := by kernel_rfl
theorem Ka72p : updOk ⟨heapOf (after Ka72o Ka72u), 180, 0⟩ Ka72u = true := by kernel_rfl
theorem Ka72k : keptOk ⟨heapOf (after Ka72o Ka72u), 180, 0⟩ Ka72u Ka72o = true := by kernel_rfl
def Ka73a : List SV := [p 0 0, .agg [n 3, z, z, n 14, tt, t #[]]]
def Ka73o : List (Nat × SObj) := [(0, KaS354), (1, KaS0), (2, KaS1), (3, KaS2), (4, KaS341), (5, KaS342), (6, KaS355), (7, KaS343), (8, KaS344), (9, KaS345), (10, M [] 12), (11, KaS346), (12, KaS347), (13, KaS348), (14, C [n 26, z, z, z] 9), (15, KaS306), (16, M [] 12), (17, KaS91), (18, KaS349), (19, KaS47), (20, KaS5), (21, KaS305), (22, KaS350), (23, KaS351), (24, KaS285), (25, KaS318), (26, KaS319), (27, KaS334), (28, KaS335), (29, KaS351), (30, KaS236), (31, KaS243)]
def Ka73x : SV := .tuple [e 101 0 2 8 2, z]
def Ka73u : List (Nat × Option SObj) := [(0, some (KaS356)), (101, some (C [n 2, n 1059, z, n 1051, n 1, n 14, z, z, n 1, n 1059, n 4, n 1051, n 1, n 15, z, z] 213)), (4, some (KaS357)), (5, some (KaS358)), (7, some (KaS359)), (8, some (KaS360)), (9, some (M [] 27)), (11, some (KaS104)), (12, some (M [] 15)), (13, some (M [] 15)), (14, some (C [z, z, z, z] 9)), (17, some (KaS105)), (18, some (KaS361)), (23, some (KaS362)), (30, some (KaS363)), (31, some (KaS362))]
theorem Ka73r (σ : Sig) : endOkS (env σ) (KaC σ) Tryz.f29.ntmps KaSl29 Tryz.f29.results.toList KaB29 (cutSt (Sym.frameOf Ka73a KaSl29) Ka73o 32) Ka73x (after Ka73o Ka73u) 102 = true := by kernel_rfl
theorem Ka73p : updOk ⟨heapOf (after Ka73o Ka73u), 102, 0⟩ Ka73u = true := by kernel_rfl
theorem Ka73k : keptOk ⟨heapOf (after Ka73o Ka73u), 102, 0⟩ Ka73u Ka73o = true := by kernel_rfl
def Ka74a : List SV := [p 0 0, .agg [n 1, n 1, z, z, ff, t #[]]]
def Ka74o : List (Nat × SObj) := [(0, KaS356), (1, KaS0), (2, KaS1), (3, KaS2), (4, KaS357), (5, KaS358), (6, KaS355), (7, KaS359), (8, KaS360), (9, M [] 27), (10, M [] 12), (11, KaS104), (12, M [] 15), (13, M [] 15), (14, C [z, z, z, z] 9), (15, KaS306), (16, M [] 12), (17, KaS105), (18, KaS361), (19, KaS47), (20, KaS5), (21, KaS305), (22, KaS350), (23, KaS362), (24, KaS285), (25, KaS318), (26, KaS319), (27, KaS334), (28, KaS335), (29, KaS351), (30, KaS363), (31, KaS362)]
def Ka74x : SV := .tuple [ns, z]
def Ka74u : List (Nat × Option SObj) := [(0, some (KaS364)), (6, some (KaS365))]
theorem Ka74r (σ : Sig) : endOkS (env σ) (KaC σ) Tryz.f29.ntmps KaSl29 Tryz.f29.results.toList KaB29 (cutSt (Sym.frameOf Ka74a KaSl29) Ka74o 32) Ka74x (after Ka74o Ka74u) 161 = true := by kernel_rfl
theorem Ka74p : updOk ⟨heapOf (after Ka74o Ka74u), 161, 0⟩ Ka74u = true := by kernel_rfl
theorem Ka74k : keptOk ⟨heapOf (after Ka74o Ka74u), 161, 0⟩ Ka74u Ka74o = true := by kernel_rfl
def Ka75a : List SV := [p 0 0, .agg [n 1, n 1, z, z, ff, t #[]]]
def Ka75o : List (Nat × SObj) := [(0, KaS364), (1, KaS0), (2, KaS1), (3, KaS2), (4, KaS357), (5, KaS358), (6, KaS365), (7, KaS359), (8, KaS360), (9, M [] 27), (10, M [] 12), (11, KaS104), (12, M [] 15), (13, M [] 15), (14, C [z, z, z, z] 9), (15, KaS306), (16, M [] 12), (17, KaS105), (18, KaS361), (19, KaS47), (20, KaS5), (21, KaS305), (22, KaS350), (23, KaS362), (24, KaS285), (25, KaS318), (26, KaS319), (27, KaS334), (28, KaS335), (29, KaS351), (30, KaS363), (31, KaS362)]
def Ka75x : SV := .tuple [ns, z]
def Ka75u : List (Nat × Option SObj) := [(0, some (KaS366)), (6, some (KaS367))]
theorem Ka75r (σ : Sig) : endOkS (env σ) (KaC σ) Tryz.f29.ntmps KaSl29 Tryz.f29.results.toList KaB29 (cutSt (Sym.frameOf Ka75a KaSl29) Ka75o 32) Ka75x (after Ka75o Ka75u) 161 = true := by kernel_rfl
theorem Ka75p : updOk ⟨heapOf (after Ka75o Ka75u), 161, 0⟩ Ka75u = true := by kernel_rfl
theorem Ka75k : keptOk ⟨heapOf (after Ka75o Ka75u), 161, 0⟩ Ka75u Ka75o = true := by kernel_rfl
def Ka76a : List SV := [p 0 0, .agg [n 3, z, z, n 15, tt, t #[]]]
def Ka76o : List (Nat × SObj) := [(0, KaS366), (1, KaS0), (2, KaS1), (3, KaS2), (4, KaS357), (5, KaS358), (6, KaS367), (7, KaS359), (8, KaS360), (9, M [] 27), (10, M [] 12), (11, KaS104), (12, M [] 15), (13, M [] 15), (14, C [z, z, z, z] 9), (15, KaS306), (16, M [] 12), (17, KaS105), (18, KaS361), (19, KaS47), (20, KaS5), (21, KaS305), (22, KaS350), (23, KaS362), (24, KaS285), (25, KaS318), (26, KaS319), (27, KaS334), (28, KaS335), (29, KaS351), (30, KaS363), (31, KaS362)]
def Ka76x : SV := .tuple [e 47 0 1 8 1, z]
def Ka76u : List (Nat × Option SObj) := [(0, some (KaS368)), (47, some (C [n 2, n 1061, n 4, n 1051, n 1, n 15, z, z] 213)), (7, some (KaS369)), (8, some (C [z, z, z, z, z] 269)), (17, some (KaS3)), (31, some (KaS370))]
theorem Ka76r (σ : Sig) : endOkS (env σ) (KaC σ) Tryz.f29.ntmps KaSl29 Tryz.f29.results.toList KaB29 (cutSt (Sym.frameOf Ka76a KaSl29) Ka76o 32) Ka76x (after Ka76o Ka76u) 51 = true := by kernel_rfl
theorem Ka76p : updOk ⟨heapOf (after Ka76o Ka76u), 51, 0⟩ Ka76u = true := by kernel_rfl
theorem Ka76k : keptOk ⟨heapOf (after Ka76o Ka76u), 51, 0⟩ Ka76u Ka76o = true := by kernel_rfl
def Ka77a : List SV := [p 0 0, .agg [n 1, n 1, z, z, ff, t #[]]]
def Ka77o : List (Nat × SObj) := [(0, KaS368), (1, KaS0), (2, KaS1), (3, KaS2), (4, KaS357), (5, KaS358), (6, KaS367), (7, KaS369), (8, C [z, z, z, z, z] 269), (9, M [] 27), (10, M [] 12), (11, KaS104), (12, M [] 15), (13, M [] 15), (14, C [z, z, z, z] 9), (15, KaS306), (16, M [] 12), (17, KaS3), (18, KaS361), (19, KaS47), (20, KaS5), (21, KaS305), (22, KaS350), (23, KaS362), (24, KaS285), (25, KaS318), (26, KaS319), (27, KaS334), (28, KaS335), (29, KaS351), (30, KaS363), (31, KaS370)]
def Ka77x : SV := .tuple [ns, z]
def Ka77u : List (Nat × Option SObj) := [(0, some (KaS371)), (6, some (KaS372))]
theorem Ka77r (σ : Sig) : endOkS (env σ) (KaC σ) Tryz.f29.ntmps KaSl29 Tryz.f29.results.toList KaB29 (cutSt (Sym.frameOf Ka77a KaSl29) Ka77o 32) Ka77x (after Ka77o Ka77u) 161 = true := by kernel_rfl
theorem Ka77p : updOk ⟨heapOf (after Ka77o Ka77u), 161, 0⟩ Ka77u = true := by kernel_rfl
theorem Ka77k : keptOk ⟨heapOf (after Ka77o Ka77u), 161, 0⟩ Ka77u Ka77o = true := by kernel_rfl
def Ka78a : List SV := [p 0 0, .agg [n 1, n 1, z, z, ff, t #[]]]
def Ka78o : List (Nat × SObj) := [(0, KaS371), (1, KaS0), (2, KaS1), (3, KaS2), (4, KaS357), (5, KaS358), (6, KaS372), (7, KaS369), (8, C [z, z, z, z, z] 269), (9, M [] 27), (10, M [] 12), (11, KaS104), (12, M [] 15), (13, M [] 15), (14, C [z, z, z, z] 9), (15, KaS306), (16, M [] 12), (17, KaS3), (18, KaS361), (19, KaS47), (20, KaS5), (21, KaS305), (22, KaS350), (23, KaS362), (24, KaS285), (25, KaS318), (26, KaS319), (27, KaS334), (28, KaS335), (29, KaS351), (30, KaS363), (31, KaS370)]
def Ka78x : SV := .tuple [ns, z]
def Ka78u : List (Nat × Option SObj) := [(0, some (KaS373)), (6, some (KaS374))]
theorem Ka78r (σ : Sig) : endOkS (env σ) (KaC σ) Tryz.f29.ntmps KaSl29 Tryz.f29.results.toList KaB29 (cutSt (Sym.frameOf Ka78a KaSl29) Ka78o 32) Ka78x (after Ka78o Ka78u) 161 = true := by kernel_rfl
theorem Ka78p : updOk ⟨heapOf (after Ka78o Ka78u), 161, 0⟩ Ka78u = true := by kernel_rfl
theorem Ka78k : keptOk ⟨heapOf (after Ka78o Ka78u), 161, 0⟩ Ka78u Ka78o = true := by kernel_rfl
def Ka79a : List SV := [p 0 0, .agg [n 1, n 1, z, z, ff, t #[]]]
def Ka79o : List (Nat × SObj) := [(0, KaS373), (1, KaS0), (2, KaS1), (3, KaS2), (4, KaS357), (5, KaS358), (6, KaS374), (7, KaS369), (8, C [z, z, z, z, z] 269), (9, M [] 27), (10, M [] 12), (11, KaS104), (12, M [] 15), (13, M [] 15), (14, C [z, z, z, z] 9), (15, KaS306), (16, M [] 12), (17, KaS3), (18, KaS361), (19, KaS47), (20, KaS5), (21, KaS305), (22, KaS350), (23, KaS362), (24, KaS285), (25, KaS318), (26, KaS319), (27, KaS334), (28, KaS335), (29, KaS351), (30, KaS363), (31, KaS370)]
def Ka79x : SV := .tuple [ns, z]
def Ka79u : List (Nat × Option SObj) := [(0, some (KaS375)), (6, some (KaS376))]
theorem Ka79r (σ : Sig) : endOkS (env σ) (KaC σ) Tryz.f29.ntmps KaSl29 Tryz.f29.results.toList KaB29 (cutSt (Sym.frameOf Ka79a KaSl29) Ka79o 32) Ka79x (after Ka79o Ka79u) 161 = true := by kernel_rfl
theorem Ka79p : updOk ⟨heapOf (after Ka79o Ka79u), 161, 0⟩ Ka79u = true := by kernel_rfl
theorem Ka79k : keptOk ⟨heapOf (after Ka79o Ka79u), 161, 0⟩ Ka79u Ka79o = true := by kernel_rfl
end Go.Proofs.YthblcnkmhnpgiaaGreatDoor
