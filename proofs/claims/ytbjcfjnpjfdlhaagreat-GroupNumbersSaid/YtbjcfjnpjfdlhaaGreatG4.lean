/- A state, written out by a program (litprint.py). -/
import Derived.Test.YtbjcfjnpjfdlhaaGreatGa
set_option maxRecDepth 100000
set_option linter.unusedVariables false
namespace Go.Proofs.YtbjcfjnpjfdlhaaGreat
open Go Go.Ev
def g4V : AV := .tuple [.slice none 0 0, .int .i64 500]
def g4H0 : List (Nat × LO) := [(1004, .cells 8 [(0, .slice none 0 0), (1, .slice none 0 0), (2, .slice none 0 0), (3, .slice none 0 0), (4, .slice none 0 0)] none false),
 (1005, .cells 8 [(0, .ptr (some (1007, 0))), (1, .slice (some (1004, 0)) 5 5), (2, .slice none 0 0)] none false),
 (1006, .cells 8 [(0, .int .i64 3), (1, .gslice 1232 0 0 0 2), (2, .int .i64 20)] none false),
 (1007, .cells 8 [(0, .ptr (some (1006, 0))), (1, .gslice 1019 0 3 0 3), (2, .int .i64 0), (3, .int .i64 0), (4, .iface 24 (.ptr (some (1005, 0))))] none false),
 (1008, .cells 8 [(0, .gslice 1055 0 10 0 10), (1, .int .i64 10)] none false),
 (1009, .cells 512 [(0, .ptr (some (1007, 0))), (1, .int .i64 0), (2, .ptr (some (1008, 0))), (3, .int .i64 120000), (4, .bool true), (5, .ptr (some (1020, 0))), (6, .int .i64 1), (7, .ptr (some (1022, 0))), (8, .ptr (some (1025, 0))), (9, .ptr (some (1024, 0))), (10, .int .i64 0), (11, .map (some 1027)), (12, .gslice 1138 0 1 0 1), (13, .int .i64 1), (14, .int .i64 1), (15, .map (some 3029)), (16, .int .i64 0), (17, .int .i64 0), (18, .int .i64 9), (19, .int .i64 116000), (20, .bool false), (21, .ptr (some (1026, 0))), (22, .int .i64 0), (23, .map none), (24, .int .i64 0)] none false),
 (1012, .cells 8 [(0, .gslice 1093 0 10 0 10), (1, .int .i64 10)] none false),
 (1013, .cells 512 [(0, .ptr (some (1007, 0))), (1, .int .i64 1), (2, .ptr (some (1012, 0))), (3, .int .i64 0), (4, .bool false), (5, .ptr (some (1058, 0))), (6, .int .i64 1), (7, .ptr (some (1060, 0))), (8, .ptr (some (1063, 0))), (9, .ptr (some (1062, 0))), (10, .int .i64 0), (11, .map (some 1065)), (12, .slice none 0 0), (13, .int .i64 0), (14, .int .i64 0), (15, .map none), (16, .int .i64 0), (17, .int .i64 0), (18, .int .i64 0), (19, .int .i64 0), (20, .bool false), (21, .ptr (some (1064, 0))), (22, .int .i64 0), (23, .map none), (24, .int .i64 0)] none false),
 (1016, .cells 8 [(0, .gslice 1131 0 10 0 10), (1, .int .i64 10)] none false),
 (1017, .cells 512 [(0, .ptr (some (1007, 0))), (1, .int .i64 2), (2, .ptr (some (1016, 0))), (3, .int .i64 0), (4, .bool false), (5, .ptr (some (1096, 0))), (6, .int .i64 1), (7, .ptr (some (1098, 0))), (8, .ptr (some (1101, 0))), (9, .ptr (some (1100, 0))), (10, .int .i64 0), (11, .map (some 1103)), (12, .slice none 0 0), (13, .int .i64 0), (14, .int .i64 0), (15, .map none), (16, .int .i64 0), (17, .int .i64 0), (18, .int .i64 0), (19, .int .i64 0), (20, .bool false), (21, .ptr (some (1102, 0))), (22, .int .i64 0), (23, .map none), (24, .int .i64 0)] none false),
 (1019, .cells 8 [(0, .ptr (some (1009, 0))), (1, .ptr (some (1013, 0))), (2, .ptr (some (1017, 0)))] (some (1, 3)) false),
 (1020, .cells 8 [(0, .ptr (some (1008, 0))), (1, .gslice 1057 0 1 0 1)] none false),
 (1021, .map [] 0 []),
 (1022, .cells 8 [(0, .int .i64 0), (1, .int .i64 0), (2, .map (some 1021)), (3, .int .i64 0)] none false),
 (1023, .map [] 0 []),
 (1024, .cells 8 [(0, .map (some 1023)), (1, .int .i64 0)] none false),
 (1025, .cells 512 [(0, .int .i64 0), (1, .int .i64 3), (2, .int .i64 10), (3, .int .i64 10), (4, .int .i64 0), (5, .int .i64 0), (6, .map (some 3031)), (7, .map (some 3032)), (8, .map (some 3033))] none false),
 (1026, .cells 8 [(0, .int .i64 0), (1, .int .i64 0), (2, .int .i64 0)] none false),
 (1027, .map [] 0 []),
 (1055, .cells 512 [(0, .int .u8 0), (1, .int .u8 0), (2, .int .u8 0), (3, .int .u8 1), (4, .int .u8 65), (5, .int .u8 217), (6, .int .u8 18), (7, .int .u8 255), (8, .int .u8 0), (9, .int .u8 0)] (some (1, 10)) false),
 (1057, .cells 8 [(0, .str [0])] (some (1, 1)) false),
 (1058, .cells 8 [(0, .ptr (some (1012, 0))), (1, .gslice 1095 0 1 0 1)] none false),
 (1059, .map [] 0 []),
 (1060, .cells 8 [(0, .int .i64 0), (1, .int .i64 0), (2, .map (some 1059)), (3, .int .i64 0)] none false),
 (1061, .map [] 0 []),
 (1062, .cells 8 [(0, .map (some 1061)), (1, .int .i64 0)] none false),
 (1063, .cells 512 [(0, .int .i64 1), (1, .int .i64 3), (2, .int .i64 0), (3, .int .i64 0), (4, .int .i64 0), (5, .int .i64 0), (6, .map none), (7, .map none), (8, .map none)] none false),
 (1064, .cells 8 [(0, .int .i64 0), (1, .int .i64 0), (2, .int .i64 0)] none false),
 (1065, .map [] 0 []),
 (1093, .cells 512 [(0, .int .u8 0), (1, .int .u8 0), (2, .int .u8 0), (3, .int .u8 1), (4, .int .u8 65), (5, .int .u8 217), (6, .int .u8 18), (7, .int .u8 255), (8, .int .u8 0), (9, .int .u8 0)] (some (1, 10)) false),
 (1095, .cells 8 [(0, .str [0])] (some (1, 1)) false),
 (1096, .cells 8 [(0, .ptr (some (1016, 0))), (1, .gslice 1133 0 1 0 1)] none false),
 (1097, .map [] 0 []),
 (1098, .cells 8 [(0, .int .i64 0), (1, .int .i64 0), (2, .map (some 1097)), (3, .int .i64 0)] none false),
 (1099, .map [] 0 []),
 (1100, .cells 8 [(0, .map (some 1099)), (1, .int .i64 0)] none false),
 (1101, .cells 512 [(0, .int .i64 2), (1, .int .i64 3), (2, .int .i64 0), (3, .int .i64 0), (4, .int .i64 0), (5, .int .i64 0), (6, .map none), (7, .map none), (8, .map none)] none false),
 (1102, .cells 8 [(0, .int .i64 0), (1, .int .i64 0), (2, .int .i64 0)] none false),
 (1103, .map [] 0 []),
 (1131, .cells 512 [(0, .int .u8 0), (1, .int .u8 0), (2, .int .u8 0), (3, .int .u8 1), (4, .int .u8 65), (5, .int .u8 217), (6, .int .u8 18), (7, .int .u8 255), (8, .int .u8 0), (9, .int .u8 0)] (some (1, 10)) false),
 (1133, .cells 8 [(0, .str [0])] (some (1, 1)) false),
 (1138, .cells 8 [(0, .int .i64 0), (1, .int .i64 1), (2, .int .i64 1), (3, .str [120]), (4, .int .i64 (-1))] (some (5, 5)) false),
 (1232, .cells 8 [(0, .int .i64 0), (1, .int .i64 0), (2, .slice none 0 0), (3, .int .i64 0), (4, .int .i64 0), (5, .slice none 0 0)] (some (3, 6)) false),
 (3029, .map [] 0 []),
 (3031, .map [] 0 []),
 (3032, .map [] 0 []),
 (3033, .map [] 0 [])]
def g4H : List (Nat × LO) := g4H0
def g4N : Nat := 3164
end Go.Proofs.YtbjcfjnpjfdlhaaGreat
