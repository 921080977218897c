/- Part 4 of the proof that: The steps from any schema to any other one, by any links, or why there are none, are as the document says. -/
import Derived.Test.YtjkjhgfiaodgmaaGreatQc
set_option linter.unusedVariables false
set_option linter.unusedSimpArgs false
namespace Go.Proofs.YtjkjhgfiaodgmaaGreat.V
open Go
def oshT : List (Nat × List Sh) := [(59, [.int .i64, .int .i64, .int .i64, .int .i64, .int .i64, .int .i64, .int .i64, .int .i64, .int .i64, .int .i64, .int .i64, .int .i64, .int .i64, .str, .own 1, .own 5]), (119, [.int .i64, .int .i64, .int .i64, .int .i64, .int .i64, .int .i64, .int .i64, .int .i64, .int .i64, .int .i64, .int .i64, .int .i64, .int .i64, .str, .lst 1, .lst 5, .int .i64, .uq 2, .int .i64, .int .i64]), (137, [.own 1, .int .i64])]
def resT : List (Nat × List Sh) := [(42, [.agg [.int .i64, .uq 2]]), (58, [.obj [.own 1, .int .i64]]), (65, [.uq 5]), (68, [.uq 2]), (69, [.uq 2]), (99, [.uq 5]), (100, [.uq 5]), (101, [.uq 5, .int .i64, .bool]), (102, [.uq 5])]
def ashT : List (Nat × List Sh) := [(68, [.uq 2, .int .i64, .uq 2]), (69, [.uq 2, .int .i64, .int .i64]), (99, [.uq 5, .int .i64, .uq 5]), (100, [.uq 5, .int .i64, .int .i64]), (102, [.uq 5, .int .i64, .int .i64, .uq 5])]
def frzL : List (Nat × Nat) → Nat → List Nat
  | [], _ => []
  | (o, r) :: l, i => bif Nat.beq r i then frzL l i else o :: frzL l i
def isIn : List Nat → Nat → Bool
  | [], _ => false
  | k :: l, j => bif Nat.beq k j then true else isIn l j
def T1 : Tab := tabOf tyTab (fun e => (ofL oshT e).getD ((shTab[e]?).getD [])) (fun f => (ofL resT f).getD ((resTab[f]?).getD [])) fnTab (fun f => (ofL ashT f).getD [])
def revT (f : Nat) : Nat := bif Nat.beq f 63 then 16 else 0
def T0 : Tab := { T1 with rev := revT }
def an3 : Ann := ⟨fun i => (ofL [] i).getD ([], []), fun i => (ofL [] i).getD [], ofL [(5, 6)], fun i => isIn [] i, fun i => frzL [(1003, 0), (1005, 0)] i, fun _ => 0, fun _ => [], fun _ => false, fun _ => false⟩
def an4 : Ann := ⟨fun i => (ofL [(2, ([(2, (Sh.lst 5)), (3, .at 1003 0), (4, .at 1004 0), (7, (Sh.int IntKind.i64))], [(1003, [.at 0 0, (Sh.int IntKind.i64), (Sh.lst 2)]), (1004, [.at 0 0, (Sh.int IntKind.i64), (Sh.lst 2)])]))] i).getD ([], []), fun i => (ofL [(2, [(none, ([(6, Sh.bool)], [])), (some 0, ([(2, (Sh.lst 5)), (3, .at 1003 0), (4, .at 1004 0)], [(1003, [.at 0 0, (Sh.int IntKind.i64), (Sh.lst 2)]), (1004, [.at 0 0, (Sh.int IntKind.i64), (Sh.lst 2)])]))])] i).getD [], ofL [(2, 15), (6, 6)], fun i => isIn [] i, fun i => frzL [(1003, 0), (1004, 0)] i, fun _ => 0, fun _ => [], fun _ => false, fun _ => false⟩
def an5 : Ann := ⟨fun i => (ofL [] i).getD ([], []), fun i => (ofL [] i).getD [], ofL [(5, 0)], fun i => isIn [] i, fun i => frzL [] i, fun _ => 0, fun _ => [], fun _ => false, fun _ => false⟩
def an6 : Ann := ⟨fun i => (ofL [(8, ([(1, (Sh.lst 5)), (3, .at 1003 0), (5, .at 1005 0), (10, (Sh.own 16)), (35, (Sh.lst 1)), (36, (Sh.int IntKind.i64)), (37, (Sh.int IntKind.i64))], [(1003, [(Sh.int IntKind.i64), (Sh.lst 2)]), (1005, [.at 0 0, (Sh.int IntKind.i64), (Sh.lst 2)])]))] i).getD ([], []), fun i => (ofL [(8, [(none, ([(6, (Sh.lst 16)), (7, (Sh.int IntKind.i64))], [])), (some 0, ([(3, .at 1003 0), (5, .at 1005 0), (10, (Sh.own 16))], [(1003, [(Sh.int IntKind.i64), (Sh.lst 2)]), (1005, [.at 0 0, (Sh.int IntKind.i64), (Sh.lst 2)])]))])] i).getD [], ofL [(1, 22)], fun i => isIn [] i, fun i => frzL [(1005, 0), (1013, 10)] i, fun _ => 0, fun _ => [], fun _ => false, fun _ => false⟩
def an7 : Ann := ⟨fun i => (ofL [(8, ([(1, (Sh.lst 5)), (3, .at 1003 0), (5, .at 1005 0), (8, (Sh.lst 1)), (10, (Sh.own 16)), (11, (Sh.int IntKind.i64))], [(1003, [(Sh.int IntKind.i64), (Sh.lst 2)]), (1005, [.at 0 0, (Sh.int IntKind.i64), (Sh.lst 2)])]))] i).getD ([], []), fun i => (ofL [(8, [(none, ([(6, (Sh.lst 16)), (7, (Sh.int IntKind.i64))], [])), (some 0, ([(3, .at 1003 0), (5, .at 1005 0), (10, (Sh.own 16))], [(1003, [(Sh.int IntKind.i64), (Sh.lst 2)]), (1005, [.at 0 0, (Sh.int IntKind.i64), (Sh.lst 2)])]))])] i).getD [], ofL [(1, 25)], fun i => isIn [] i, fun i => frzL [(1005, 0), (1012, 10)] i, fun _ => 0, fun _ => [], fun _ => false, fun _ => false⟩
def an8 : Ann := ⟨fun i => (ofL [(4, ([(0, (Sh.lst 16)), (1, (Sh.lst 16)), (5, (Sh.int IntKind.i64))], []))] i).getD ([], []), fun i => (ofL [(4, [(none, ([(4, Sh.bool)], [])), (some 0, ([], []))])] i).getD [], ofL [], fun i => isIn [] i, fun i => frzL [] i, fun _ => 0, fun _ => [], fun _ => false, fun _ => false⟩
def an9 : Ann := ⟨fun i => (ofL [(2, ([(1, .at 1001 0), (3, (Sh.int IntKind.i64))], [(1001, [.at 0 0, (Sh.int IntKind.i64), (Sh.int IntKind.i64), (Sh.lst 2), (Sh.lst 16), (Sh.lst 16)])]))] i).getD ([], []), fun i => (ofL [(2, [(none, ([(2, Sh.bool)], [])), (some 0, ([(1, .at 1001 0)], [(1001, [.at 0 0, (Sh.int IntKind.i64), (Sh.int IntKind.i64), (Sh.lst 2), (Sh.lst 16), (Sh.lst 16)])]))])] i).getD [], ofL [(2, 13), (6, 2)], fun i => isIn [] i, fun i => frzL [(1001, 0)] i, fun _ => 0, fun _ => [], fun _ => false, fun _ => false⟩
def an10 : Ann := ⟨fun i => (ofL [(4, ([(0, (Sh.lst 5)), (1, (Sh.int IntKind.i64)), (2, (Sh.int IntKind.i64)), (16, (Sh.int IntKind.i64)), (17, (Sh.int IntKind.i64))], []))] i).getD ([], []), fun i => (ofL [(4, [(none, ([(6, (Sh.lst 1)), (7, (Sh.int IntKind.i64))], [])), (some 0, ([], []))])] i).getD [], ofL [], fun i => isIn [] i, fun i => frzL [] i, fun _ => 0, fun _ => [], fun _ => false, fun _ => false⟩
def an11 : Ann := ⟨fun i => (ofL [(5, ([(3, (Sh.int IntKind.i64)), (21, (Sh.lst 2)), (22, (Sh.int IntKind.i64)), (23, (Sh.int IntKind.i64))], []))] i).getD ([], []), fun i => (ofL [(5, [(none, ([(2, Sh.bool)], [])), (some 0, ([], []))])] i).getD [], ofL [(1, 19), (7, 35)], fun i => isIn [] i, fun i => frzL [(1001, 0), (1005, 6)] i, fun _ => 0, fun _ => [], fun _ => false, fun _ => false⟩
def an12 : Ann := ⟨fun i => (ofL [] i).getD ([], []), fun i => (ofL [] i).getD [], ofL [(8, 48)], fun i => isIn [] i, fun i => frzL [(1002, 0), (1003, 0)] i, fun _ => 0, fun _ => [], fun _ => false, fun _ => false⟩
def an13 : Ann := ⟨fun i => (ofL [] i).getD ([], []), fun i => (ofL [] i).getD [], ofL [(1, 4)], fun i => isIn [] i, fun i => frzL [(1002, 0), (1003, 0)] i, fun _ => 0, fun _ => [], fun _ => false, fun _ => false⟩
def an14 : Ann := ⟨fun i => (ofL [(4, ([(1, .at 1001 0), (3, (Sh.int IntKind.i64))], [(1001, [.at 0 0, (Sh.int IntKind.i64), (Sh.lst 2)])]))] i).getD ([], []), fun i => (ofL [(4, [(none, ([(2, Sh.bool)], [])), (some 0, ([], []))])] i).getD [], ofL [(1, 17)], fun i => isIn [] i, fun i => frzL [(1001, 0)] i, fun _ => 0, fun _ => [], fun _ => false, fun _ => false⟩
def an15 : Ann := ⟨fun i => (ofL [(16, ([(0, (Sh.lst 5)), (2, (Sh.int IntKind.i64)), (8, (Sh.lst 1)), (9, (Sh.lst 1)), (10, (Sh.int IntKind.i64)), (11, (Sh.own 1)), (12, (Sh.own 1)), (13, (Sh.int IntKind.i64)), (14, (Sh.int IntKind.i64))], [])), (11, ([(0, (Sh.lst 5)), (2, (Sh.int IntKind.i64)), (8, (Sh.lst 1)), (9, (Sh.lst 1)), (10, (Sh.int IntKind.i64)), (11, (Sh.own 1)), (12, (Sh.own 1)), (13, (Sh.int IntKind.i64))], [])), (6, ([(0, (Sh.lst 5)), (2, (Sh.int IntKind.i64)), (8, (Sh.lst 1)), (9, (Sh.lst 1)), (10, (Sh.int IntKind.i64))], []))] i).getD ([], []), fun i => (ofL [(16, [(some 4, ([(0, (Sh.lst 5)), (2, (Sh.int IntKind.i64)), (8, (Sh.lst 1)), (9, (Sh.lst 1)), (10, (Sh.int IntKind.i64)), (11, (Sh.own 1)), (12, (Sh.own 1)), (13, (Sh.int IntKind.i64))], []))]), (11, [(none, ([(6, (Sh.lst 1)), (7, (Sh.int IntKind.i64))], [])), (some 2, ([(0, (Sh.lst 5)), (2, (Sh.int IntKind.i64)), (10, (Sh.int IntKind.i64)), (11, (Sh.own 1)), (12, (Sh.own 1))], []))]), (6, [(none, ([(6, (Sh.lst 1)), (7, (Sh.int IntKind.i64))], [])), (some 0, ([], []))])] i).getD [], ofL [], fun i => isIn [] i, fun i => frzL [] i, fun _ => 0, fun _ => [], fun _ => false, fun _ => false⟩
def an16 : Ann := ⟨fun i => (ofL [] i).getD ([], []), fun i => (ofL [] i).getD [], ofL [(1, 2)], fun i => isIn [] i, fun i => frzL [(1001, 0)] i, fun _ => 0, fun _ => [], fun _ => false, fun _ => false⟩
def an17 : Ann := ⟨fun i => (ofL [(6, ([(2, (Sh.lst 16)), (11, (Sh.lst 16)), (13, (Sh.int IntKind.i64))], []))] i).getD ([], []), fun i => (ofL [(6, [(none, ([(6, (Sh.int IntKind.i64)), (7, (Sh.int IntKind.i64))], [])), (some 0, ([(2, (Sh.lst 16)), (11, (Sh.lst 16))], []))])] i).getD [], ofL [(6, 40)], fun i => isIn [] i, fun i => frzL [(1003, 0), (1008, 1)] i, fun _ => 0, fun _ => [], fun _ => false, fun _ => false⟩
def an18 : Ann := ⟨fun i => (ofL [(2, ([(1, (Sh.lst 16)), (2, .at 1002 0), (4, .at 1004 0), (7, (Sh.int IntKind.i64))], [(1002, [(Sh.int IntKind.i64), (Sh.lst 2)]), (1004, [(Sh.int IntKind.i64), (Sh.lst 2)])]))] i).getD ([], []), fun i => (ofL [(2, [(none, ([(4, .at 1004 0), (5, (Sh.int IntKind.i64)), (6, (Sh.int IntKind.i64))], [(1004, [(Sh.int IntKind.i64), (Sh.lst 2)])])), (some 0, ([(2, .at 1002 0), (4, .at 1004 0)], [(1002, [(Sh.int IntKind.i64), (Sh.lst 2)]), (1004, [(Sh.int IntKind.i64), (Sh.lst 2)])]))])] i).getD [], ofL [], fun i => isIn [] i, fun i => frzL [(1008, 4)] i, fun _ => 0, fun _ => [], fun _ => false, fun _ => false⟩
def an19 : Ann := ⟨fun i => (ofL [(4, ([(2, .at 1002 0), (3, .at 1003 0), (5, (Sh.int IntKind.i64))], [(1002, [.at 0 0, (Sh.int IntKind.i64), (Sh.lst 2)]), (1003, [.at 0 0, (Sh.int IntKind.i64), (Sh.lst 2)])]))] i).getD ([], []), fun i => (ofL [(4, [(none, ([(4, Sh.bool)], [])), (some 0, ([], []))])] i).getD [], ofL [(1, 19)], fun i => isIn [] i, fun i => frzL [(1002, 0), (1003, 0)] i, fun _ => 0, fun _ => [], fun _ => false, fun _ => false⟩
def an20 : Ann := ⟨fun i => (ofL [(9, ([(2, .at 1002 0), (3, .at 1003 0), (6, (Sh.int IntKind.i64))], [(1002, [.at 0 0, (Sh.int IntKind.i64), (Sh.int IntKind.i64), (Sh.int IntKind.i64), (Sh.int IntKind.i64), (Sh.int IntKind.i64), (Sh.int IntKind.i64), (Sh.int IntKind.i64), (Sh.int IntKind.i64), (Sh.int IntKind.i64), (Sh.int IntKind.i64), (Sh.int IntKind.i64), (Sh.int IntKind.i64), (Sh.int IntKind.i64), Sh.str, (Sh.lst 1), (Sh.lst 5)]), (1003, [.at 0 0, (Sh.int IntKind.i64), (Sh.int IntKind.i64), (Sh.int IntKind.i64), (Sh.int IntKind.i64), (Sh.int IntKind.i64), (Sh.int IntKind.i64), (Sh.int IntKind.i64), (Sh.int IntKind.i64), (Sh.int IntKind.i64), (Sh.int IntKind.i64), (Sh.int IntKind.i64), (Sh.int IntKind.i64), (Sh.int IntKind.i64), Sh.str, (Sh.lst 1), (Sh.lst 5)])])), (4, ([(2, .at 1002 0), (3, .at 1003 0), (5, (Sh.int IntKind.i64))], [(1002, [.at 0 0, (Sh.int IntKind.i64), (Sh.int IntKind.i64), (Sh.int IntKind.i64), (Sh.int IntKind.i64), (Sh.int IntKind.i64), (Sh.int IntKind.i64), (Sh.int IntKind.i64), (Sh.int IntKind.i64), (Sh.int IntKind.i64), (Sh.int IntKind.i64), (Sh.int IntKind.i64), (Sh.int IntKind.i64), (Sh.int IntKind.i64), Sh.str, (Sh.lst 1), (Sh.lst 5)]), (1003, [.at 0 0, (Sh.int IntKind.i64), (Sh.int IntKind.i64), (Sh.int IntKind.i64), (Sh.int IntKind.i64), (Sh.int IntKind.i64), (Sh.int IntKind.i64), (Sh.int IntKind.i64), (Sh.int IntKind.i64), (Sh.int IntKind.i64), (Sh.int IntKind.i64), (Sh.int IntKind.i64), (Sh.int IntKind.i64), (Sh.int IntKind.i64), Sh.str, (Sh.lst 1), (Sh.lst 5)])]))] i).getD ([], []), fun i => (ofL [(9, [(none, ([(4, Sh.bool)], [])), (some 2, ([], []))]), (4, [(none, ([(4, Sh.bool)], [])), (some 0, ([(2, .at 1002 0), (3, .at 1003 0)], [(1002, [.at 0 0, (Sh.int IntKind.i64), (Sh.int IntKind.i64), (Sh.int IntKind.i64), (Sh.int IntKind.i64), (Sh.int IntKind.i64), (Sh.int IntKind.i64), (Sh.int IntKind.i64), (Sh.int IntKind.i64), (Sh.int IntKind.i64), (Sh.int IntKind.i64), (Sh.int IntKind.i64), (Sh.int IntKind.i64), (Sh.int IntKind.i64), Sh.str, (Sh.lst 1), (Sh.lst 5)]), (1003, [.at 0 0, (Sh.int IntKind.i64), (Sh.int IntKind.i64), (Sh.int IntKind.i64), (Sh.int IntKind.i64), (Sh.int IntKind.i64), (Sh.int IntKind.i64), (Sh.int IntKind.i64), (Sh.int IntKind.i64), (Sh.int IntKind.i64), (Sh.int IntKind.i64), (Sh.int IntKind.i64), (Sh.int IntKind.i64), (Sh.int IntKind.i64), Sh.str, (Sh.lst 1), (Sh.lst 5)])]))])] i).getD [], ofL [(1, 85)], fun i => isIn [] i, fun i => frzL [(1002, 0), (1003, 0)] i, fun _ => 0, fun _ => [], fun _ => false, fun _ => false⟩
def an21 : Ann := ⟨fun i => (ofL [(2, ([(0, (Sh.lst 16)), (3, (Sh.int IntKind.i64))], []))] i).getD ([], []), fun i => (ofL [(2, [(none, ([(2, Sh.bool)], [])), (some 0, ([(0, (Sh.lst 16))], []))])] i).getD [], ofL [(2, 11), (4, 29)], fun i => isIn [] i, fun i => frzL [] i, fun _ => 0, fun _ => [], fun _ => false, fun _ => false⟩
def an22 : Ann := ⟨fun i => (ofL [(4, ([(1, (Sh.int IntKind.i64)), (2, (Sh.int IntKind.i64)), (3, .at 1003 0), (19, (Sh.lst 5)), (20, (Sh.int IntKind.i64)), (21, (Sh.int IntKind.i64))], [(1003, [.at 0 0, (Sh.lst 5), (Sh.int IntKind.i64)])]))] i).getD ([], []), fun i => (ofL [(4, [(none, ([(6, (Sh.lst 1)), (7, Sh.bool)], [])), (some 0, ([], []))])] i).getD [], ofL [], fun i => isIn [] i, fun i => frzL [(1003, 0), (1009, 5)] i, fun _ => 0, fun _ => [], fun _ => false, fun _ => false⟩
def an23 : Ann := ⟨fun i => (ofL [(5, ([(3, .at 1003 0), (32, (Sh.lst 5)), (33, (Sh.int IntKind.i64)), (34, (Sh.int IntKind.i64))], [(1003, [Sh.arr])]))] i).getD ([], []), fun i => (ofL [(5, [(none, ([(2, Sh.bool)], [])), (some 0, ([], []))])] i).getD [], ofL [(1, 30), (7, 46)], fun i => isIn [] i, fun i => frzL [(1001, 0), (1005, 6)] i, fun _ => 0, fun _ => [], fun _ => false, fun _ => false⟩
def an24 : Ann := ⟨fun i => (ofL [] i).getD ([], []), fun i => (ofL [] i).getD [], ofL [(1, 20)], fun i => isIn [] i, fun i => frzL [(1001, 0)] i, fun _ => 0, fun _ => [], fun _ => false, fun _ => false⟩
def an25 : Ann := ⟨fun i => (ofL [] i).getD ([], []), fun i => (ofL [] i).getD [], ofL [], fun i => isIn [] i, fun i => frzL [(1003, 0), (1008, 1)] i, fun _ => 0, fun _ => [], fun _ => false, fun _ => false⟩
def an26 : Ann := ⟨fun i => (ofL [(3, ([(4, .at 1004 0), (7, .at 1007 0), (14, (Sh.lst 16)), (15, (Sh.int IntKind.i64)), (16, (Sh.int IntKind.i64))], [(1004, [(Sh.int IntKind.i64), (Sh.lst 2)]), (1007, [.int .i64, .lst 2])]))] i).getD ([], []), fun i => (ofL [(3, [(none, ([(4, .at 1004 0), (5, (Sh.int IntKind.i64)), (6, (Sh.int IntKind.i64))], [(1004, [(Sh.int IntKind.i64), (Sh.lst 2)])])), (some 0, ([(4, .at 1004 0), (7, .at 1007 0)], [(1004, [(Sh.int IntKind.i64), (Sh.lst 2)]), (1007, [.int .i64, .lst 2])]))])] i).getD [], ofL [], fun i => isIn [] i, fun i => frzL [(1002, 0), (1009, 4), (1010, 5)] i, fun _ => 0, fun _ => [], fun _ => false, fun i => isIn [13] i⟩
def an27 : Ann := ⟨fun i => (ofL [(4, ([(1, (Sh.lst 2)), (2, Sh.any), (15, (Sh.lst 2)), (16, (Sh.int IntKind.i64)), (17, (Sh.int IntKind.i64))], []))] i).getD ([], []), fun i => (ofL [(4, [(none, ([(6, Sh.bool)], [])), (some 0, ([], []))])] i).getD [], ofL [], fun i => isIn [] i, fun i => frzL [(1008, 5), (1009, 6)] i, fun _ => 0, fun _ => [], fun _ => false, fun _ => false⟩
def an28 : Ann := ⟨fun i => (ofL [] i).getD ([], []), fun i => (ofL [] i).getD [], ofL [(1, 4)], fun i => isIn [] i, fun i => frzL [(1002, 0), (1003, 0)] i, fun _ => 0, fun _ => [], fun _ => false, fun _ => false⟩
def an29 : Ann := ⟨fun i => (ofL [(4, ([(0, (Sh.lst 5)), (1, (Sh.lst 5)), (12, (Sh.int IntKind.i64)), (13, (Sh.int IntKind.i64))], []))] i).getD ([], []), fun i => (ofL [(4, [(none, ([(4, Sh.bool)], [])), (some 0, ([], []))])] i).getD [], ofL [], fun i => isIn [] i, fun i => frzL [] i, fun _ => 0, fun _ => [], fun _ => false, fun _ => false⟩
def an30 : Ann := ⟨fun i => (ofL [(4, ([(1, .at 1001 0), (3, (Sh.int IntKind.i64))], [(1001, [.at 0 0, (Sh.int IntKind.i64), (Sh.lst 5)])]))] i).getD ([], []), fun i => (ofL [(4, [(none, ([(2, Sh.bool)], [])), (some 0, ([(1, .at 1001 0)], [(1001, [.at 0 0, (Sh.int IntKind.i64), (Sh.lst 5)])]))])] i).getD [], ofL [(1, 23)], fun i => isIn [] i, fun i => frzL [(1001, 0)] i, fun _ => 0, fun _ => [], fun _ => false, fun _ => false⟩
def an31 : Ann := ⟨fun i => (ofL [(2, ([(0, (Sh.lst 1)), (1, (Sh.int IntKind.i64)), (5, (Sh.int IntKind.i64))], []))] i).getD ([], []), fun i => (ofL [(2, [(none, ([(4, Sh.bool)], [])), (some 0, ([], []))])] i).getD [], ofL [], fun i => isIn [] i, fun i => frzL [] i, fun _ => 0, fun _ => [], fun _ => false, fun _ => false⟩
def an32 : Ann := ⟨fun i => (ofL [(4, ([(0, (Sh.lst 16)), (3, (Sh.int IntKind.i64))], []))] i).getD ([], []), fun i => (ofL [(4, [(none, ([(2, (Sh.int IntKind.i64))], [])), (some 0, ([], []))])] i).getD [], ofL [], fun i => isIn [] i, fun i => frzL [] i, fun _ => 0, fun _ => [], fun _ => false, fun _ => false⟩
def an33 : Ann := ⟨fun i => (ofL [(3, ([(1, (Sh.lst 16)), (2, .at 1002 0), (6, (Sh.lst 16)), (7, (Sh.int IntKind.i64))], [(1002, [(Sh.int IntKind.i64), (Sh.lst 2)])]))] i).getD ([], []), fun i => (ofL [(3, [(none, ([(4, (Sh.lst 16)), (5, (Sh.int IntKind.i64))], [])), (some 0, ([(6, (Sh.lst 16))], []))])] i).getD [], ofL [], fun i => isIn [] i, fun i => frzL [(1008, 5)] i, fun _ => 0, fun _ => [], fun _ => false, fun _ => false⟩
def an34 : Ann := ⟨fun i => (ofL [(17, ([(2, .at 1002 0), (4, .at 1004 0), (7, .at 1007 0), (9, (Sh.int IntKind.i64)), (10, (Sh.lst 5)), (12, (Sh.int IntKind.i64))], [(1002, [.at 0 0, (Sh.int IntKind.i64), (Sh.lst 2)]), (1004, [(Sh.int IntKind.i64), (Sh.lst 2)]), (1007, [(Sh.int IntKind.i64), (Sh.lst 5)])])), (1000028, ([(2, .at 1002 0), (4, .at 1004 0), (7, .at 1007 0)], [(1002, [.at 0 0, (Sh.int IntKind.i64), (Sh.lst 2)]), (1004, [(Sh.int IntKind.i64), (Sh.lst 2)]), (1007, [(Sh.int IntKind.i64), (Sh.lst 5)])]))] i).getD ([], []), fun i => (ofL [(17, [(some 1, ([(2, .at 1002 0), (4, .at 1004 0), (7, .at 1007 0)], [(1002, [.at 0 0, (Sh.int IntKind.i64), (Sh.lst 2)]), (1004, [(Sh.int IntKind.i64), (Sh.lst 2)]), (1007, [(Sh.int IntKind.i64), (Sh.lst 5)])]))]), (1000028, [(none, ([(4, .at 1004 0), (5, (Sh.int IntKind.i64))], [(1004, [(Sh.int IntKind.i64), (Sh.lst 2)])]))])] i).getD [], ofL [(1, 26)], fun i => isIn [28] i, fun i => frzL [(1002, 0), (1003, 0), (1013, 28)] i, fun _ => 0, fun _ => [], fun _ => false, fun _ => false⟩
def an35 : Ann := ⟨fun i => (ofL [(4, ([(2, .at 1002 0), (3, .at 1003 0), (5, (Sh.int IntKind.i64))], [(1002, [.at 0 0, (Sh.int IntKind.i64), (Sh.lst 5)]), (1003, [.at 0 0, (Sh.int IntKind.i64), (Sh.lst 5)])]))] i).getD ([], []), fun i => (ofL [(4, [(none, ([(4, Sh.bool)], [])), (some 0, ([], []))])] i).getD [], ofL [(1, 19)], fun i => isIn [] i, fun i => frzL [(1002, 0), (1003, 0)] i, fun _ => 0, fun _ => [], fun _ => false, fun _ => false⟩
def an36 : Ann := ⟨fun i => (ofL [(3, ([(3, (Sh.int IntKind.i64)), (7, (Sh.lst 5)), (8, (Sh.int IntKind.i64)), (9, (Sh.int IntKind.i64))], []))] i).getD ([], []), fun i => (ofL [(3, [(some 0, ([(3, (Sh.int IntKind.i64))], []))])] i).getD [], ofL [], fun i => isIn [] i, fun i => frzL [(1001, 0), (1005, 4)] i, fun _ => 0, fun _ => [], fun _ => false, fun _ => false⟩
def an37 : Ann := ⟨fun i => (ofL [] i).getD ([], []), fun i => (ofL [] i).getD [], ofL [(1, 11), (3, 3), (6, 2), (8, 2), (10, 2), (12, 2)], fun i => isIn [] i, fun i => frzL [(1001, 0)] i, fun _ => 0, fun _ => [], fun _ => false, fun _ => false⟩
def an38 : Ann := ⟨fun i => (ofL [(10, ([(11, .at 1061 0), (69, (Sh.lst 1)), (70, (Sh.int IntKind.i64)), (71, (Sh.int IntKind.i64))], [(1061, [.own 1, .int .i64])]))] i).getD ([], []), fun i => (ofL [(10, [(some 0, ([(11, .at 1061 0)], [(1061, [.own 1, .int .i64])]))])] i).getD [], ofL [(5, 60)], fun i => isIn [] i, fun i => frzL [(1001, 0)] i, fun _ => 0, fun _ => [], fun _ => false, fun _ => false⟩
def an39 : Ann := ⟨fun i => (ofL [(3, ([(2, .at 1002 0), (6, .uq 16), (11, (Sh.lst 16)), (12, (Sh.int IntKind.i64)), (13, (Sh.int IntKind.i64))], [(1002, [(Sh.int IntKind.i64), (Sh.lst 2)])]))] i).getD ([], []), fun i => (ofL [(3, [(none, ([(4, (Sh.lst 16)), (5, (Sh.int IntKind.i64))], [])), (some 0, ([(6, .uq 16)], []))])] i).getD [], ofL [], fun i => isIn [] i, fun i => frzL [(1008, 4), (1009, 5)] i, fun _ => 0, fun _ => [], fun i => isIn [29] i, fun i => isIn [39] i⟩
def an40 : Ann := ⟨fun i => (ofL [(2, ([(0, (Sh.lst 16)), (1, (Sh.lst 16)), (2, Sh.any), (7, (Sh.int IntKind.i64))], []))] i).getD ([], []), fun i => (ofL [(2, [(some 0, ([(7, (Sh.int IntKind.i64))], []))])] i).getD [], ofL [], fun i => isIn [] i, fun i => frzL [] i, fun _ => 0, fun _ => [], fun _ => false, fun _ => false⟩
def an41 : Ann := ⟨fun i => (ofL [] i).getD ([], []), fun i => (ofL [] i).getD [], ofL [(1, 5), (3, 4)], fun i => isIn [] i, fun i => frzL [(1002, 0), (1003, 0), (1006, 2)] i, fun _ => 0, fun _ => [], fun _ => false, fun _ => false⟩
def an42 : Ann := ⟨fun i => (ofL [(3, ([(2, .at 1002 0), (3, .at 1003 0), (10, (Sh.lst 2)), (11, (Sh.int IntKind.i64)), (12, (Sh.int IntKind.i64))], [(1002, [(Sh.int IntKind.i64), (Sh.lst 2)]), (1003, [.int .i64, .uq 2])]))] i).getD ([], []), fun i => (ofL [(3, [(some 0, ([(2, .at 1002 0), (3, .at 1003 0)], [(1002, [(Sh.int IntKind.i64), (Sh.lst 2)]), (1003, [.int .i64, .uq 2])]))])] i).getD [], ofL [], fun i => isIn [] i, fun i => frzL [(1001, 0), (1005, 4)] i, fun _ => 0, fun _ => [], fun i => isIn [25] i, fun i => isIn [22] i⟩
def an43 : Ann := ⟨fun i => (ofL [] i).getD ([], []), fun i => (ofL [] i).getD [], ofL [(1, 25)], fun i => isIn [] i, fun i => frzL [(1002, 0), (1003, 0)] i, fun _ => 0, fun i => (ofL [(14, [6])] i).getD [], fun i => isIn [62] i, fun i => isIn [60] i⟩
def an44 : Ann := ⟨fun i => (ofL [] i).getD ([], []), fun i => (ofL [] i).getD [], ofL [], fun i => isIn [] i, fun i => frzL [(1001, 0)] i, fun _ => 0, fun _ => [], fun _ => false, fun _ => false⟩
def an45 : Ann := ⟨fun i => (ofL [(2, ([(1, (Sh.int IntKind.i64)), (2, .at 1002 0), (5, (Sh.int IntKind.i64))], [(1002, [.at 0 0, (Sh.int IntKind.i64), (Sh.lst 5)])]))] i).getD ([], []), fun i => (ofL [(2, [(none, ([(4, (Sh.int IntKind.i64))], [])), (some 0, ([], []))])] i).getD [], ofL [], fun i => isIn [] i, fun i => frzL [(1002, 0)] i, fun _ => 0, fun _ => [], fun _ => false, fun _ => false⟩
def an46 : Ann := ⟨fun i => (ofL [(3, ([(1, .at 1001 0), (3, (Sh.int IntKind.i64)), (4, (Sh.int IntKind.i64))], [(1001, [.at 0 0, (Sh.int IntKind.i64), (Sh.lst 5)])]))] i).getD ([], []), fun i => (ofL [(3, [(some 0, ([(3, (Sh.int IntKind.i64))], []))])] i).getD [], ofL [], fun i => isIn [] i, fun i => frzL [(1001, 0)] i, fun _ => 0, fun _ => [], fun _ => false, fun _ => false⟩
def an47 : Ann := ⟨fun i => (ofL [] i).getD ([], []), fun i => (ofL [] i).getD [], ofL [(1, 40), (3, 61), (5, 77), (7, 94), (9, 110), (11, 2)], fun i => isIn [] i, fun i => frzL [(1001, 0)] i, fun _ => 0, fun _ => [], fun _ => false, fun _ => false⟩
def an48 : Ann := ⟨fun i => (ofL [] i).getD ([], []), fun i => (ofL [] i).getD [], ofL [], fun i => isIn [] i, fun i => frzL [(1002, 0), (1003, 0), (1006, 1), (1008, 6), (1010, 12)] i, fun _ => 0, fun _ => [], fun _ => false, fun _ => false⟩
def an49 : Ann := ⟨fun i => (ofL [] i).getD ([], []), fun i => (ofL [] i).getD [], ofL [(9, 32), (11, 60), (13, 84)], fun i => isIn [] i, fun i => frzL [(1002, 0), (1003, 0), (1006, 8)] i, fun _ => 0, fun _ => [], fun _ => false, fun _ => false⟩
def an50 : Ann := ⟨fun i => (ofL [] i).getD ([], []), fun i => (ofL [] i).getD [], ofL [], fun i => isIn [] i, fun i => frzL [(1005, 0)] i, fun _ => 0, fun _ => [], fun _ => false, fun _ => false⟩
def an51 : Ann := ⟨fun i => (ofL [(2, ([(1, (Sh.int IntKind.i64)), (2, .at 1002 0), (5, (Sh.int IntKind.i64))], [(1002, [.at 0 0, (Sh.int IntKind.i64), (Sh.lst 2)])]))] i).getD ([], []), fun i => (ofL [(2, [(none, ([(4, (Sh.int IntKind.i64))], [])), (some 0, ([], []))])] i).getD [], ofL [], fun i => isIn [] i, fun i => frzL [(1002, 0)] i, fun _ => 0, fun _ => [], fun _ => false, fun _ => false⟩
def an52 : Ann := ⟨fun i => (ofL [] i).getD ([], []), fun i => (ofL [] i).getD [], ofL [], fun i => isIn [] i, fun i => frzL [(1003, 0), (1008, 8), (1009, 13), (1010, 14)] i, fun _ => 0, fun _ => [], fun _ => false, fun _ => false⟩
def an54 : Ann := ⟨fun i => (ofL [(4, ([(2, .at 1002 0), (3, .at 1003 0), (4, .at 1004 0), (5, .at 1005 0), (6, Sh.bool), (7, (Sh.int IntKind.i64))], [(1002, [.at 0 0, (Sh.int IntKind.i64), (Sh.lst 2)]), (1003, [.at 0 0, (Sh.int IntKind.i64), (Sh.lst 5)]), (1004, [(Sh.int IntKind.i64), (Sh.lst 2)]), (1005, [.int .i64, .own 2])]))] i).getD ([], []), fun i => (ofL [(4, [(some 0, ([(3, .at 1003 0), (4, .at 1004 0), (5, .at 1005 0), (6, Sh.bool)], [(1003, [.at 0 0, (Sh.int IntKind.i64), (Sh.lst 5)]), (1004, [(Sh.int IntKind.i64), (Sh.lst 2)]), (1005, [.int .i64, .own 2])]))])] i).getD [], ofL [(6, 34)], fun i => isIn [] i, fun i => frzL [(1002, 0), (1003, 0)] i, fun _ => 0, fun _ => [], fun _ => false, fun _ => false⟩
def an55 : Ann := ⟨fun i => (ofL [] i).getD ([], []), fun i => (ofL [] i).getD [], ofL [], fun i => isIn [] i, fun i => frzL [(1001, 0)] i, fun _ => 0, fun _ => [], fun _ => false, fun _ => false⟩
def an56 : Ann := ⟨fun i => (ofL [(12, ([(4, .at 1012 0), (23, (Sh.lst 2)), (24, (Sh.int IntKind.i64)), (25, (Sh.int IntKind.i64)), (39, (Sh.lst 5)), (40, (Sh.int IntKind.i64)), (41, (Sh.int IntKind.i64))], [(1012, [.own 1, .int .i64])])), (7, ([(4, .at 1012 0), (23, (Sh.lst 2)), (24, (Sh.int IntKind.i64)), (25, (Sh.int IntKind.i64))], [(1012, [.own 1, .int .i64])]))] i).getD ([], []), fun i => (ofL [(12, [(some 2, ([(4, .at 1012 0), (23, (Sh.lst 2)), (24, (Sh.int IntKind.i64)), (25, (Sh.int IntKind.i64))], [(1012, [.own 1, .int .i64])]))]), (7, [(some 0, ([(4, .at 1012 0)], [(1012, [.own 1, .int .i64])]))])] i).getD [], ofL [], fun i => isIn [] i, fun i => frzL [(1001, 0), (1006, 8), (1008, 13)] i, fun _ => 0, fun _ => [], fun _ => false, fun _ => false⟩
def an57 : Ann := ⟨fun i => (ofL [(12, ([(4, .at 1012 0), (6, .at 1006 0), (17, (Sh.lst 16)), (18, (Sh.int IntKind.i64)), (19, (Sh.int IntKind.i64)), (32, (Sh.lst 1)), (33, (Sh.int IntKind.i64)), (34, (Sh.int IntKind.i64))], [(1006, [.at 0 0, (Sh.int IntKind.i64), (Sh.int IntKind.i64), (Sh.int IntKind.i64), (Sh.int IntKind.i64), (Sh.int IntKind.i64), (Sh.int IntKind.i64), (Sh.int IntKind.i64), (Sh.int IntKind.i64), (Sh.int IntKind.i64), (Sh.int IntKind.i64), (Sh.int IntKind.i64), (Sh.int IntKind.i64), (Sh.int IntKind.i64), Sh.str, (Sh.lst 1), (Sh.lst 5)]), (1012, [.own 1, .int .i64])])), (6, ([(4, .at 1012 0), (17, (Sh.lst 16)), (18, (Sh.int IntKind.i64)), (19, (Sh.int IntKind.i64))], [(1012, [.own 1, .int .i64])]))] i).getD ([], []), fun i => (ofL [(12, [(some 2, ([(4, .at 1012 0), (17, (Sh.lst 16)), (18, (Sh.int IntKind.i64)), (19, (Sh.int IntKind.i64))], [(1012, [.own 1, .int .i64])]))]), (6, [(none, ([(2, (Sh.lst 1)), (3, (Sh.int IntKind.i64))], [])), (some 0, ([(4, .at 1012 0)], [(1012, [.own 1, .int .i64])]))])] i).getD [], ofL [], fun i => isIn [] i, fun i => frzL [(1006, 7)] i, fun _ => 0, fun _ => [], fun _ => false, fun _ => false⟩
def an62 : Ann := ⟨fun i => (ofL [] i).getD ([], []), fun i => (ofL [] i).getD [], ofL [], fun i => isIn [] i, fun i => frzL [(1002, 0), (1003, 0), (1006, 1), (1008, 4), (1011, 26)] i, fun _ => 0, fun _ => [], fun _ => false, fun i => isIn [108] i⟩
def an63 : Ann := ⟨fun i => (ofL [(1, ([(0, (Sh.lst 16)), (2, (Sh.int IntKind.i64)), (3, (Sh.int IntKind.i64))], []))] i).getD ([], []), fun i => (ofL [(1, [(some 0, ([], []))])] i).getD [], ofL [], fun i => isIn [] i, fun i => frzL [] i, fun _ => 0, fun _ => [], fun _ => false, fun _ => false⟩
def an64 : Ann := ⟨fun i => (ofL [(4, ([(0, (Sh.lst 1)), (1, (Sh.lst 1)), (12, (Sh.int IntKind.i64)), (13, (Sh.int IntKind.i64))], []))] i).getD ([], []), fun i => (ofL [(4, [(none, ([(4, Sh.bool)], [])), (some 0, ([], []))])] i).getD [], ofL [], fun i => isIn [] i, fun i => frzL [] i, fun _ => 0, fun _ => [], fun _ => false, fun _ => false⟩
def an65 : Ann := ⟨fun i => (ofL [] i).getD ([], []), fun i => (ofL [] i).getD [], ofL [], fun i => isIn [] i, fun i => frzL [] i, fun _ => 0, fun _ => [], fun i => isIn [5, 7] i, fun _ => false⟩
def an66 : Ann := ⟨fun i => (ofL [(3, ([(1, .at 1001 0), (3, (Sh.lst 1)), (9, (Sh.lst 1)), (10, (Sh.int IntKind.i64)), (11, (Sh.int IntKind.i64))], [(1001, [.at 0 0, (Sh.int IntKind.i64), (Sh.int IntKind.i64), (Sh.int IntKind.i64), (Sh.int IntKind.i64), (Sh.int IntKind.i64), (Sh.int IntKind.i64), (Sh.int IntKind.i64), (Sh.int IntKind.i64), (Sh.int IntKind.i64), (Sh.int IntKind.i64), (Sh.int IntKind.i64), (Sh.int IntKind.i64), (Sh.int IntKind.i64), Sh.str, (Sh.lst 1), (Sh.lst 5)])]))] i).getD ([], []), fun i => (ofL [(3, [(none, ([(2, Sh.bool)], [])), (some 0, ([(1, .at 1001 0), (3, (Sh.lst 1))], [(1001, [.at 0 0, (Sh.int IntKind.i64), (Sh.int IntKind.i64), (Sh.int IntKind.i64), (Sh.int IntKind.i64), (Sh.int IntKind.i64), (Sh.int IntKind.i64), (Sh.int IntKind.i64), (Sh.int IntKind.i64), (Sh.int IntKind.i64), (Sh.int IntKind.i64), (Sh.int IntKind.i64), (Sh.int IntKind.i64), (Sh.int IntKind.i64), Sh.str, (Sh.lst 1), (Sh.lst 5)])]))])] i).getD [], ofL [], fun i => isIn [] i, fun i => frzL [(1001, 0)] i, fun _ => 0, fun _ => [], fun _ => false, fun _ => false⟩
def an67 : Ann := ⟨fun i => (ofL [(1000020, ([(0, .at 0 0), (4, .at 1004 0), (5, (Sh.int IntKind.i64))], [(0, [.int .i64, .int .i64, .int .i64, .int .i64, .int .i64, .int .i64, .int .i64, .int .i64, .int .i64, .int .i64, .int .i64, .int .i64, .int .i64, .str, .lst 1, .lst 5, .int .i64, .uq 2, .int .i64, .int .i64]), (1004, [.at 0 0, (Sh.int IntKind.i64), (Sh.lst 5)])]))] i).getD ([], []), fun i => (ofL [(1000020, [(none, ([(2, (Sh.int IntKind.i64))], [(0, [.int .i64, .int .i64, .int .i64, .int .i64, .int .i64, .int .i64, .int .i64, .int .i64, .int .i64, .int .i64, .int .i64, .int .i64, .int .i64, .str, .lst 1, .lst 5, .int .i64, .uq 2, .int .i64, .int .i64])]))])] i).getD [], ofL [(22, 78), (24, 87), (25, 87)], fun i => isIn [20] i, fun i => frzL [(1004, 8)] i, fun _ => 0, fun _ => [], fun _ => false, fun _ => false⟩
def an67n : Ann := ⟨fun i => (ofL [(1000020, ([(0, .nilp), (4, .at 1004 0), (5, (Sh.int IntKind.i64))], [(1004, [.at 0 0, (Sh.int IntKind.i64), (Sh.lst 5)])]))] i).getD ([], []), fun i => (ofL [(1000020, [(none, ([(2, (Sh.int IntKind.i64))], []))])] i).getD [], ofL [(22, 78), (24, 87), (25, 87)], fun i => isIn [20] i, fun i => frzL [(1004, 8)] i, fun _ => 0, fun _ => [], fun _ => false, fun _ => false⟩
def an70 : Ann := ⟨fun i => (ofL [] i).getD ([], []), fun i => (ofL [] i).getD [], ofL [], fun i => isIn [] i, fun i => frzL [(1004, 3)] i, fun _ => 0, fun i => (ofL [(9, [3])] i).getD [], fun i => isIn [36] i, fun _ => false⟩
def an70n : Ann := ⟨fun i => (ofL [] i).getD ([], []), fun i => (ofL [] i).getD [], ofL [], fun i => isIn [] i, fun i => frzL [(1004, 3)] i, fun _ => 0, fun i => (ofL [(9, [3])] i).getD [], fun i => isIn [36] i, fun _ => false⟩
def an71 : Ann := ⟨fun i => (ofL [] i).getD ([], []), fun i => (ofL [] i).getD [], ofL [(1, 6)], fun i => isIn [] i, fun i => frzL [(1001, 0)] i, fun _ => 0, fun _ => [], fun _ => false, fun _ => false⟩
def an72 : Ann := ⟨fun i => (ofL [] i).getD ([], []), fun i => (ofL [] i).getD [], ofL [], fun i => isIn [] i, fun i => frzL [(1001, 0)] i, fun _ => 0, fun _ => [], fun _ => false, fun _ => false⟩
def an73 : Ann := ⟨fun i => (ofL [(1000004, ([(3, (Sh.int IntKind.i64)), (4, Sh.bool)], [])), (1000009, ([(3, (Sh.int IntKind.i64)), (9, Sh.bool)], []))] i).getD ([], []), fun i => (ofL [(1000004, [(some 50000, ([], [])), (none, ([(2, Sh.str)], []))]), (1000009, [(some 50000, ([], [])), (none, ([(2, Sh.str)], []))])] i).getD [], ofL [], fun i => isIn [4, 9] i, fun i => frzL [] i, fun _ => 0, fun _ => [], fun _ => false, fun _ => false⟩
def an74 : Ann := ⟨fun i => (ofL [] i).getD ([], []), fun i => (ofL [] i).getD [], ofL [(1, 3), (2, 3), (3, 3), (4, 2)], fun i => isIn [] i, fun i => frzL [(1001, 0)] i, fun _ => 0, fun _ => [], fun _ => false, fun _ => false⟩
def an75 : Ann := ⟨fun i => (ofL [] i).getD ([], []), fun i => (ofL [] i).getD [], ofL [(1, 6)], fun i => isIn [] i, fun i => frzL [] i, fun _ => 0, fun _ => [], fun _ => false, fun _ => false⟩
def an76 : Ann := ⟨fun i => (ofL [] i).getD ([], []), fun i => (ofL [] i).getD [], ofL [(1, 10), (2, 2), (3, 31), (6, 2)], fun i => isIn [] i, fun i => frzL [(1001, 0)] i, fun _ => 0, fun _ => [], fun _ => false, fun _ => false⟩
def an77 : Ann := ⟨fun i => (ofL [(3, ([(1, (Sh.int IntKind.u8)), (5, Sh.str), (6, (Sh.int IntKind.i64))], []))] i).getD ([], []), fun i => (ofL [(3, [(none, ([(4, Sh.bool)], [])), (some 0, ([], []))])] i).getD [], ofL [], fun i => isIn [] i, fun i => frzL [] i, fun _ => 0, fun _ => [], fun _ => false, fun _ => false⟩
def an78 : Ann := ⟨fun i => (ofL [] i).getD ([], []), fun i => (ofL [] i).getD [], ofL [(2, 4)], fun i => isIn [] i, fun i => frzL [(1002, 0), (1003, 0)] i, fun _ => 0, fun _ => [], fun _ => false, fun _ => false⟩
def an79 : Ann := ⟨fun i => (ofL [] i).getD ([], []), fun i => (ofL [] i).getD [], ofL [(1, 2)], fun i => isIn [] i, fun i => frzL [] i, fun _ => 0, fun _ => [], fun _ => false, fun _ => false⟩
def an80 : Ann := ⟨fun i => (ofL [] i).getD ([], []), fun i => (ofL [] i).getD [], ofL [(3, 4)], fun i => isIn [] i, fun i => frzL [(1002, 0), (1003, 0)] i, fun _ => 0, fun _ => [], fun _ => false, fun _ => false⟩
def an81 : Ann := ⟨fun i => (ofL [] i).getD ([], []), fun i => (ofL [] i).getD [], ofL [], fun i => isIn [] i, fun i => frzL [(1001, 0)] i, fun _ => 0, fun _ => [], fun _ => false, fun _ => false⟩
def an82 : Ann := ⟨fun i => (ofL [] i).getD ([], []), fun i => (ofL [] i).getD [], ofL [], fun i => isIn [] i, fun i => frzL [(1003, 0)] i, fun _ => 0, fun _ => [], fun _ => false, fun _ => false⟩
def an82n : Ann := ⟨fun i => (ofL [] i).getD ([], []), fun i => (ofL [] i).getD [], ofL [], fun i => isIn [] i, fun i => frzL [(1003, 0)] i, fun _ => 0, fun _ => [], fun _ => false, fun _ => false⟩
def an83 : Ann := ⟨fun i => (ofL [(1000004, ([(3, (Sh.int IntKind.i64)), (4, Sh.bool)], [])), (1000009, ([(3, (Sh.int IntKind.i64)), (11, Sh.bool)], []))] i).getD ([], []), fun i => (ofL [(1000004, [(some 50000, ([], [])), (none, ([(2, (Sh.lst 1))], []))]), (1000009, [(some 50000, ([], [])), (none, ([(2, (Sh.lst 1))], []))])] i).getD [], ofL [], fun i => isIn [4, 9] i, fun i => frzL [] i, fun _ => 0, fun _ => [], fun _ => false, fun _ => false⟩
def an84 : Ann := ⟨fun i => (ofL [(23, ([(0, .at 0 0), (77, (Sh.lst 1)), (78, (Sh.int IntKind.i64)), (79, (Sh.int IntKind.i64))], [(0, [.own 1, .int .i64])])), (30, ([(0, .at 0 0), (95, (Sh.lst 5)), (96, (Sh.int IntKind.i64)), (97, (Sh.int IntKind.i64))], [(0, [.own 1, .int .i64])]))] i).getD ([], []), fun i => (ofL [(23, [(some 1, ([], [(0, [.own 1, .int .i64])]))]), (30, [(some 3, ([], [(0, [.own 1, .int .i64])]))])] i).getD [], ofL [], fun i => isIn [] i, fun i => frzL [(1004, 0), (1009, 31)] i, fun _ => 0, fun _ => [], fun _ => false, fun _ => false⟩
def an84n : Ann := ⟨fun i => (ofL [(23, ([(0, .nilp), (77, (Sh.lst 1)), (78, (Sh.int IntKind.i64)), (79, (Sh.int IntKind.i64))], [])), (30, ([(0, .nilp), (95, (Sh.lst 5)), (96, (Sh.int IntKind.i64)), (97, (Sh.int IntKind.i64))], []))] i).getD ([], []), fun i => (ofL [(23, [(some 1, ([], []))]), (30, [(some 3, ([], []))])] i).getD [], ofL [], fun i => isIn [] i, fun i => frzL [(1004, 0), (1009, 31)] i, fun _ => 0, fun _ => [], fun _ => false, fun _ => false⟩
def an85 : Ann := ⟨fun i => (ofL [(0, ([(0, .at 0 0), (1, (Sh.int IntKind.u64))], [(0, [.own 1, .int .i64])]))] i).getD ([], []), fun i => (ofL [(0, [(some 0, ([(0, .at 0 0), (1, (Sh.int IntKind.u64))], [(0, [.own 1, .int .i64])]))])] i).getD [], ofL [], fun i => isIn [] i, fun i => frzL [] i, fun _ => 0, fun _ => [], fun _ => false, fun _ => false⟩
def an85n : Ann := ⟨fun i => (ofL [(0, ([(0, .nilp), (1, (Sh.int IntKind.u64))], []))] i).getD ([], []), fun i => (ofL [(0, [(some 0, ([(0, .nilp), (1, (Sh.int IntKind.u64))], []))])] i).getD [], ofL [], fun i => isIn [] i, fun i => frzL [] i, fun _ => 0, fun _ => [], fun _ => false, fun _ => false⟩
def an88 : Ann := ⟨fun i => (ofL [] i).getD ([], []), fun i => (ofL [] i).getD [], ofL [], fun i => isIn [] i, fun i => frzL [(1002, 0), (1003, 0), (1006, 1)] i, fun _ => 0, fun _ => [], fun _ => false, fun _ => false⟩
def an90 : Ann := ⟨fun i => (ofL [(2, ([(1, (Sh.int IntKind.i64)), (4, .at 1004 0), (9, (Sh.lst 2)), (10, (Sh.int IntKind.i64)), (11, (Sh.int IntKind.i64))], [(1004, [(Sh.int IntKind.i64), (Sh.lst 5)])]))] i).getD ([], []), fun i => (ofL [(2, [(none, ([(4, .at 1004 0), (5, Sh.bool)], [(1004, [(Sh.int IntKind.i64), (Sh.lst 5)])])), (some 0, ([(4, .at 1004 0)], [(1004, [(Sh.int IntKind.i64), (Sh.lst 5)])]))])] i).getD [], ofL [], fun i => isIn [] i, fun i => frzL [(1002, 0), (1007, 3)] i, fun _ => 0, fun _ => [], fun _ => false, fun _ => false⟩
def an91 : Ann := ⟨fun i => (ofL [] i).getD ([], []), fun i => (ofL [] i).getD [], ofL [(9, 4), (11, 4), (13, 4), (15, 5), (16, 4), (19, 4)], fun i => isIn [] i, fun i => frzL [(1002, 0)] i, fun _ => 0, fun _ => [], fun _ => false, fun _ => false⟩
def an92 : Ann := ⟨fun i => (ofL [(3, ([(1, .at 1001 0), (2, .at 1002 0), (3, .at 1003 0), (11, (Sh.lst 1)), (12, (Sh.int IntKind.i64)), (13, (Sh.int IntKind.i64))], [(1001, [.at 0 0, (Sh.int IntKind.i64), (Sh.int IntKind.i64), (Sh.int IntKind.i64), (Sh.int IntKind.i64), (Sh.int IntKind.i64), (Sh.int IntKind.i64), (Sh.int IntKind.i64), (Sh.int IntKind.i64), (Sh.int IntKind.i64), (Sh.int IntKind.i64), (Sh.int IntKind.i64), (Sh.int IntKind.i64), (Sh.int IntKind.i64), Sh.str, (Sh.lst 1), (Sh.lst 5)]), (1002, [(Sh.int IntKind.i64), (Sh.int IntKind.i64), (Sh.int IntKind.i64), (Sh.int IntKind.i64), (Sh.int IntKind.i64), (Sh.int IntKind.i64), (Sh.int IntKind.i64), (Sh.int IntKind.i64), (Sh.int IntKind.i64), (Sh.int IntKind.i64), (Sh.int IntKind.i64), (Sh.int IntKind.i64), (Sh.int IntKind.i64), Sh.str, (Sh.lst 1), (Sh.lst 5)]), (1003, [(Sh.int IntKind.i64), (Sh.int IntKind.i64), (Sh.int IntKind.i64), (Sh.int IntKind.i64), (Sh.int IntKind.i64), (Sh.int IntKind.i64), (Sh.int IntKind.i64), (Sh.int IntKind.i64), (Sh.int IntKind.i64), (Sh.int IntKind.i64), (Sh.int IntKind.i64), (Sh.int IntKind.i64), (Sh.int IntKind.i64), Sh.str, (Sh.lst 1), (Sh.lst 5)])]))] i).getD ([], []), fun i => (ofL [(3, [(some 0, ([(2, .at 1002 0), (3, .at 1003 0)], [(1002, [(Sh.int IntKind.i64), (Sh.int IntKind.i64), (Sh.int IntKind.i64), (Sh.int IntKind.i64), (Sh.int IntKind.i64), (Sh.int IntKind.i64), (Sh.int IntKind.i64), (Sh.int IntKind.i64), (Sh.int IntKind.i64), (Sh.int IntKind.i64), (Sh.int IntKind.i64), (Sh.int IntKind.i64), (Sh.int IntKind.i64), Sh.str, (Sh.lst 1), (Sh.lst 5)]), (1003, [(Sh.int IntKind.i64), (Sh.int IntKind.i64), (Sh.int IntKind.i64), (Sh.int IntKind.i64), (Sh.int IntKind.i64), (Sh.int IntKind.i64), (Sh.int IntKind.i64), (Sh.int IntKind.i64), (Sh.int IntKind.i64), (Sh.int IntKind.i64), (Sh.int IntKind.i64), (Sh.int IntKind.i64), (Sh.int IntKind.i64), Sh.str, (Sh.lst 1), (Sh.lst 5)])]))])] i).getD [], ofL [], fun i => isIn [] i, fun i => frzL [(1001, 0)] i, fun _ => 0, fun _ => [], fun _ => false, fun _ => false⟩
def an93 : Ann := ⟨fun i => (ofL [(2, ([(0, .at 0 0)], [(0, [.int .i64, .int .i64, .int .i64, .int .i64, .int .i64, .int .i64, .int .i64, .int .i64, .int .i64, .int .i64, .int .i64, .int .i64, .int .i64, .str, .lst 1, .lst 5, .int .i64, .uq 2, .int .i64, .int .i64])]))] i).getD ([], []), fun i => (ofL [(2, [(some 0, ([(0, .at 0 0)], [(0, [.int .i64, .int .i64, .int .i64, .int .i64, .int .i64, .int .i64, .int .i64, .int .i64, .int .i64, .int .i64, .int .i64, .int .i64, .int .i64, .str, .lst 1, .lst 5, .int .i64, .uq 2, .int .i64, .int .i64])]))])] i).getD [], ofL [(2, 36), (4, 2)], fun i => isIn [] i, fun i => frzL [] i, fun _ => 0, fun _ => [], fun _ => false, fun _ => false⟩
def an93n : Ann := ⟨fun i => (ofL [(2, ([(0, .nilp)], []))] i).getD ([], []), fun i => (ofL [(2, [(some 0, ([(0, .nilp)], []))])] i).getD [], ofL [(2, 36), (4, 2)], fun i => isIn [] i, fun i => frzL [] i, fun _ => 0, fun _ => [], fun _ => false, fun _ => false⟩
def an94 : Ann := ⟨fun i => (ofL [] i).getD ([], []), fun i => (ofL [] i).getD [], ofL [], fun i => isIn [] i, fun i => frzL [(1002, 0), (1003, 0)] i, fun _ => 0, fun _ => [], fun _ => false, fun _ => false⟩
def an101 : Ann := ⟨fun i => (ofL [] i).getD ([], []), fun i => (ofL [] i).getD [], ofL [(16, 9), (21, 11)], fun i => isIn [] i, fun i => frzL [(1005, 1), (1010, 20)] i, fun _ => 0, fun _ => [], fun i => isIn [21, 36, 57, 76, 105, 111] i, fun _ => false⟩
def an101n : Ann := ⟨fun i => (ofL [] i).getD ([], []), fun i => (ofL [] i).getD [], ofL [(16, 9), (21, 11)], fun i => isIn [] i, fun i => frzL [(1005, 1), (1010, 20)] i, fun _ => 0, fun _ => [], fun i => isIn [21, 36, 57, 76, 105, 111] i, fun _ => false⟩
def an103 : Ann := ⟨fun i => (ofL [(2, ([(0, (Sh.int IntKind.i64)), (3, (Sh.int IntKind.i64))], []))] i).getD ([], []), fun i => (ofL [(2, [(some 0, ([(3, (Sh.int IntKind.i64))], []))])] i).getD [], ofL [], fun i => isIn [] i, fun i => frzL [] i, fun _ => 0, fun _ => [], fun _ => false, fun _ => false⟩
def an104 : Ann := ⟨fun i => (ofL [(7, ([(0, (Sh.lst 1)), (1, (Sh.int IntKind.i64)), (5, (Sh.int IntKind.i64)), (6, (Sh.int IntKind.i64))], [])), (2, ([(0, (Sh.lst 1)), (1, (Sh.int IntKind.i64)), (5, (Sh.int IntKind.i64))], []))] i).getD ([], []), fun i => (ofL [(7, [(none, ([(4, Sh.bool)], [])), (some 2, ([(0, (Sh.lst 1)), (1, (Sh.int IntKind.i64)), (5, (Sh.int IntKind.i64))], []))]), (2, [(none, ([(4, Sh.bool)], [])), (some 0, ([(0, (Sh.lst 1))], []))])] i).getD [], ofL [(11, 4)], fun i => isIn [] i, fun i => frzL [] i, fun _ => 0, fun _ => [], fun _ => false, fun _ => false⟩
def an105 : Ann := ⟨fun i => (ofL [] i).getD ([], []), fun i => (ofL [] i).getD [], ofL [], fun i => isIn [] i, fun i => frzL [(1001, 0)] i, fun _ => 0, fun _ => [], fun _ => false, fun _ => false⟩
def an106 : Ann := ⟨fun i => (ofL [(2, ([(0, (Sh.int IntKind.i64)), (3, (Sh.int IntKind.i64))], []))] i).getD ([], []), fun i => (ofL [(2, [(some 0, ([(3, (Sh.int IntKind.i64))], []))])] i).getD [], ofL [], fun i => isIn [] i, fun i => frzL [] i, fun _ => 0, fun _ => [], fun _ => false, fun _ => false⟩
def an108 : Ann := ⟨fun i => (ofL [] i).getD ([], []), fun i => (ofL [] i).getD [], ofL [], fun i => isIn [] i, fun i => frzL [(1003, 0)] i, fun _ => 0, fun _ => [], fun _ => false, fun _ => false⟩
def an108n : Ann := ⟨fun i => (ofL [] i).getD ([], []), fun i => (ofL [] i).getD [], ofL [], fun i => isIn [] i, fun i => frzL [(1003, 0)] i, fun _ => 0, fun _ => [], fun _ => false, fun _ => false⟩
def an109 : Ann := ⟨fun i => (ofL [] i).getD ([], []), fun i => (ofL [] i).getD [], ofL [(1, 6)], fun i => isIn [] i, fun i => frzL [] i, fun _ => 0, fun _ => [], fun _ => false, fun _ => false⟩
def an110 : Ann := ⟨fun i => (ofL [] i).getD ([], []), fun i => (ofL [] i).getD [], ofL [(5, 4)], fun i => isIn [] i, fun i => frzL [(1002, 0), (1003, 0)] i, fun _ => 0, fun _ => [], fun _ => false, fun _ => false⟩
def an111 : Ann := ⟨fun i => (ofL [(3, ([(0, (Sh.lst 1)), (1, (Sh.int IntKind.i64)), (5, .at 1005 0), (8, (Sh.lst 1)), (9, (Sh.int IntKind.i64)), (10, (Sh.int IntKind.i64))], [(1005, [Sh.arr])]))] i).getD ([], []), fun i => (ofL [(3, [(none, ([(4, Sh.bool)], [])), (some 0, ([(0, (Sh.lst 1))], []))])] i).getD [], ofL [(5, 23)], fun i => isIn [] i, fun i => frzL [] i, fun _ => 0, fun _ => [], fun _ => false, fun _ => false⟩
def an112 : Ann := ⟨fun i => (ofL [(2, ([(0, (Sh.lst 5)), (1, Sh.any), (7, (Sh.int IntKind.i64)), (8, (Sh.int IntKind.i64))], []))] i).getD ([], []), fun i => (ofL [(2, [(none, ([(4, (Sh.int IntKind.i64))], [])), (some 0, ([], []))])] i).getD [], ofL [], fun i => isIn [] i, fun i => frzL [] i, fun _ => 0, fun _ => [], fun _ => false, fun _ => false⟩
def an113 : Ann := ⟨fun i => (ofL [] i).getD ([], []), fun i => (ofL [] i).getD [], ofL [], fun i => isIn [] i, fun i => frzL [(1002, 0)] i, fun _ => 0, fun _ => [], fun _ => false, fun _ => false⟩
def an117 : Ann := ⟨fun i => (ofL [] i).getD ([], []), fun i => (ofL [] i).getD [], ofL [(1, 23), (5, 4)], fun i => isIn [] i, fun i => frzL [(1002, 0), (1003, 0)] i, fun _ => 0, fun _ => [], fun _ => false, fun _ => false⟩
def an119 : Ann := ⟨fun i => (ofL [(3, ([(0, (Sh.lst 5)), (10, (Sh.int IntKind.i64)), (11, (Sh.int IntKind.i64))], []))] i).getD ([], []), fun i => (ofL [(3, [(none, ([(4, (Sh.int IntKind.i64))], [])), (some 0, ([], []))])] i).getD [], ofL [], fun i => isIn [] i, fun i => frzL [] i, fun _ => 0, fun _ => [], fun _ => false, fun _ => false⟩
def an120 : Ann := ⟨fun i => (ofL [(1, ([(0, (Sh.lst 2)), (2, (Sh.int IntKind.i64)), (3, (Sh.int IntKind.i64))], []))] i).getD ([], []), fun i => (ofL [(1, [(some 0, ([], []))])] i).getD [], ofL [], fun i => isIn [] i, fun i => frzL [] i, fun _ => 0, fun _ => [], fun _ => false, fun _ => false⟩
def an122 : Ann := ⟨fun i => (ofL [(1, ([(0, (Sh.lst 5)), (2, (Sh.int IntKind.i64)), (3, (Sh.int IntKind.i64))], []))] i).getD ([], []), fun i => (ofL [(1, [(some 0, ([], []))])] i).getD [], ofL [], fun i => isIn [] i, fun i => frzL [] i, fun _ => 0, fun _ => [], fun _ => false, fun _ => false⟩
def anN : Ann := ⟨fun _ => ([], []), fun _ => [], fun _ => none, fun _ => false, fun _ => [], fun _ => 0, fun _ => [], fun _ => false, fun _ => false⟩
def annT : List (Nat × Ann) := [(6, an3), (8, an4), (10, an5), (12, an6), (14, an7), (16, an8), (18, an9), (20, an10), (22, an11), (24, an12), (26, an13), (28, an14), (30, an15), (32, an16), (34, an17), (36, an18), (38, an19), (40, an20), (42, an21), (44, an22), (46, an23), (48, an24), (50, an25), (52, an26), (54, an27), (56, an28), (58, an29), (60, an30), (62, an31), (64, an32), (66, an33), (68, an34), (70, an35), (72, an36), (74, an37), (76, an38), (78, an39), (80, an40), (82, an41), (84, an42), (86, an43), (88, an44), (90, an45), (92, an46), (94, an47), (96, an48), (98, an49), (100, an50), (102, an51), (104, an52), (108, an54), (110, an55), (112, an56), (114, an57), (124, an62), (126, an63), (128, an64), (130, an65), (132, an66), (134, an67), (135, an67n), (140, an70), (141, an70n), (142, an71), (144, an72), (146, an73), (148, an74), (150, an75), (152, an76), (154, an77), (156, an78), (158, an79), (160, an80), (162, an81), (164, an82), (165, an82n), (166, an83), (168, an84), (169, an84n), (170, an85), (171, an85n), (176, an88), (180, an90), (182, an91), (184, an92), (186, an93), (187, an93n), (188, an94), (202, an101), (203, an101n), (206, an103), (208, an104), (210, an105), (212, an106), (216, an108), (217, an108n), (218, an109), (220, an110), (222, an111), (224, an112), (226, an113), (234, an117), (238, an119), (240, an120), (244, an122)]
def isNilA (v : AV) : Bool := match v with | .nilp => true | _ => false
noncomputable def E0 : Env := ⟨Tryz.prog, T0, fun f k => (ofL annT (2 * f + k)).getD anN, fun _ args => bif args.any isNilA then 1 else 0, X0⟩
theorem zxz (f : Nat) (h : 0 < revT f) : RevAt Tryz.prog f (revT f) := by
  unfold revT at h ⊢
  cases hb : Nat.beq f 63 with
  | true => have := Nat.eq_of_beq_eq_true hb; subst this; exact zut
  | false => rw [hb] at h; cases h
theorem E0_ok : EnvOK' E0 := ⟨zxx (T := T1) (z10i zup) revT, z10c (T := T1) (fn_ok zuq) revT zxz, by kernel_rfl, X0_ok⟩
end Go.Proofs.YtjkjhgfiaodgmaaGreat.V
namespace Go.Proofs.YtjkjhgfiaodgmaaGreat.V
open Go
theorem z10j {E : Env} {f : Nat} {fn : Func} {body : Code} {args : List AV} {ins : List (Nat × List AV)} {r : CR} (hf : E.P.funcs[f]? = some fn) (hb : fn.body = some body) (hc : (codeOK fn.ntmps body && ckOK (E.an f (E.key f args)) body && Nat.ble args.length fn.ntmps) = true)
    (hX : E.X f args ins = none)
    (h : runF (OA (tbl E) (ltbl E f (E.key f args))) E.T (E.an f (E.key f args)) fn body (E.T.res f) (oshOf E.T 0 args fn.params.toList) args ins (fun r o => some (r, o)) = some r) : tbl E f args ins = some r := by
  refine zjp ?_; unfold stepC; rw [hX]; unfold stepC0 withB
  rw [hf]; dsimp only; rw [hb]; dsimp only; rw [hc]; exact h
theorem zy0 {E : Env} {f key id : Nat} {fn : Func} {body : Code} {vs : List AV} {os : List (List AV)} {r : LR} (hf : E.P.funcs[f]? = some fn) (hb : fn.body = some body) (hc : (codeOK fn.ntmps (loopB (E.an f key) body id) && ckOK (E.an f key) body) = true)
    (h : roundV (OA (tbl E) (ltbl E f key)) id ((E.an f key).loop id) ((E.an f key).out id) (fun env objs cl k => run (OA (tbl E) (ltbl E f key)) E.T (E.an f key) (loopB (E.an f key) body id) env objs cl k) vs os (fun vs os => ltbl E f key id vs os) (fun j vs os => some (j, vs, os)) = some r) : ltbl E f key id vs os = some r := by
  refine zra ?_; unfold stepL withB
  rw [hf]; dsimp only; rw [hb]; dsimp only; rw [hc]; exact h
def asRef0 {α : Type} (A : Alg α) (v : AV) (k : Nat → α) : α := match v with | .ref o 0 => k o | _ => A.fail
section
variable {R : Type} [Tok R] {c : CT} {l : LT}
@[simp] theorem z133 : (OA (R := R) c l).fail = none := Eq.trans rfl rfl
@[simp] theorem z9 (b : Bool) (x : Option R) : (OA c l).chk b x = bif b then x else none := Eq.trans rfl rfl
@[simp] theorem zb (p : Prop) (x : Option R) : (OA c l).asm p x = x := Eq.trans rfl rfl
@[simp] theorem zi (f : Nat) (as1 : List AV) (ins : List (Nat × List AV)) (k : List AV → List (Nat × List AV) → Option R) : (OA c l).call f as1 ins k = (c f as1 ins).bind fun ro => k ro.1 ro.2 := Eq.trans rfl rfl
@[simp] theorem za (f : Nat) (as1 : List AV) (k : List AV → Option R) : (OA c l).callx f as1 k = (c f as1 []).bind fun ro => match ro.2 with | [] => k ro.1 | _ => none := Eq.trans rfl rfl
@[simp] theorem ze (id : Nat) (vs : List AV) (os : List (List AV)) (k : Nat → List AV → List (List AV) → Option R) : (OA c l).loop id vs os k = (l id vs os).bind fun x => k x.1 x.2.1 x.2.2 := Eq.trans rfl rfl
theorem znq (x y : Option R) : (OA c l).both x y = bif sameO x y then x else none := rfl
theorem z10k (f : Bool → Option R) : (OA c l).amb f = bif sameO (f true) (f false) then f true else none := rfl
@[simp] theorem zk (f : (Bool → Option R) → Option R) (k : Bool → Option R) : (OA c l).join f k = (f fun b => some (Tok.tok b)).bind fun r => (Tok.untok r).bind k := Eq.trans rfl rfl
@[simp] theorem zea (x : R) : sameO (some x) (some x) = true := Tok.same_refl x
theorem zjs {x y : Option R} {r : R} (hx : x = some r) (hy : y = some r) : (OA c l).both x y = some r := by rw [znq, hx, hy, zea]; rfl
@[simp] theorem zj (x : Option R) : (OA c l).both x x = x := by cases x <;> simp [znq, sameO, Tok.same_refl]
def dbl {α : Type} (A : Alg α) (x : α) : α := A.both x x
@[simp] theorem zx (x : Option R) : dbl (OA c l) x = x := Eq.trans rfl (zj x)
@[simp] theorem z10l (r : R) : (OA c l).both (some r) (some r) = some r := zjs rfl rfl
theorem z75 {f : Bool → Option R} {r : R} (h : ∀ b, f b = some r) : (OA c l).amb f = some r := by rw [z10k, h, h, zea]; rfl
attribute [simp] Tok.untok_tok
@[simp] theorem z2g (b x y : Bool) : (bif b then some (Tok.tok (R := R) x) else some (Tok.tok y)) = some (Tok.tok (bif b then x else y)) := by cases b <;> rfl
@[simp] theorem z134 (p : Prop) [Decidable p] (x y : Bool) : (if p then some (Tok.tok (R := R) x) else some (Tok.tok y)) = some (Tok.tok (if p then x else y)) := by by_cases h : p <;> simp [h]
end
section
variable {α : Type} {A : Alg α}
@[simp] theorem u_asC {β : Type} (x : β) (r : List β) (k : β → List β → α) : asC A (x :: r) k = k x r := Eq.trans rfl rfl
@[simp] theorem u_asN {β : Type} (k : α) : asN A ([] : List β) k = k := Eq.trans rfl rfl
@[simp] theorem u_asI (ik : IntKind) (n : Int) (k : Int → α) : asI A ik (.int ik n) k = k n := by simp [asI, lit]
@[simp] theorem u_asB (b : Bool) (k : Bool → α) : asB A (.bool b) k = k b := Eq.trans rfl rfl
@[simp] theorem u_asS (b : List UInt8) (k : List UInt8 → α) : asS A (.str b) k = k b := Eq.trans rfl rfl
@[simp] theorem u_asL (w : Nat) (l : List AV) (k : List AV → α) : asL A w (.lst .ro w l) k = k l := by simp [asL, lit]
@[simp] theorem zu (w : Nat) (q : Nm) (l : List AV) (k : Nm → List AV → α) : asOwn A w (.lst (.own q) w l) k = k q l := by simp [asOwn, lit]
@[simp] theorem u_asA (l : List AV) (k : List AV → α) : asA A (.agg l) k = k l := Eq.trans rfl rfl
@[simp] theorem zq (w : Nat) (l : List AV) (k : List AV → α) : asUq A w (.lst .uq w l) k = k l := by simp [asUq, lit]
@[simp] theorem z135 (l : List AV) (k : List AV → α) : asRow A (some (.row l)) k = k l := Eq.trans rfl rfl
@[simp] theorem z12r (k : α) : asNilp A .nilp k = k := Eq.trans rfl rfl
@[simp] theorem z23 (o : Nat) (k : Nat → α) : asRef0 A (.ref o 0) k = k o := Eq.trans rfl rfl
@[simp] theorem zeb (x : AV) (l : List AV) (k : Bool → α) : nilEq A .ro (x :: l) k = k false := Eq.trans rfl rfl
@[simp] theorem z12a (q : Nm) (x : AV) (l : List AV) (k : Bool → α) : nilEq A (.own q) (x :: l) k = k false := Eq.trans rfl rfl
end
abbrev iV (n : Int) : AV := .int .i64 n
abbrev aI {α : Type} (A : Alg α) (l : List AV) (f : Int → List AV → α) : α := asC A l fun v l => asI A .i64 v fun n => f n l
abbrev aB {α : Type} (A : Alg α) (l : List AV) (f : Bool → List AV → α) : α := asC A l fun v l => asB A v fun n => f n l
abbrev aA {α : Type} (A : Alg α) (l : List AV) (f : List AV → List AV → α) : α := asC A l fun v l => asA A v fun n => f n l
abbrev aS {α : Type} (A : Alg α) (l : List AV) (f : List UInt8 → List AV → α) : α := asC A l fun v l => asS A v fun n => f n l
abbrev aL {α : Type} (A : Alg α) (w : Nat) (l : List AV) (f : List AV → List AV → α) : α := asC A l fun v l => asL A w v fun n => f n l
abbrev aU {α : Type} (A : Alg α) (w : Nat) (l : List AV) (f : List AV → List AV → α) : α := asC A l fun v l => asUq A w v fun n => f n l
theorem tblF {E : Env} {f : Nat} {fn : Func} {args : List AV} {ins : List (Nat × List AV)} {r : CR} {X : Option CR} (hf : E.P.funcs[f]? = some fn) (h : X = some r) (hb : fn.body = some (bodyOf fn) := by kernel_rfl)
    (hc : (codeOK fn.ntmps (bodyOf fn) && ckOK (E.an f (E.key f args)) (bodyOf fn) && Nat.ble args.length fn.ntmps) = true := by kernel_rfl) (hX : E.X f args ins = none := by kernel_rfl)
    (hr : runF (OA (tbl E) (ltbl E f (E.key f args))) E.T (E.an f (E.key f args)) fn (bodyOf fn) (E.T.res f) (oshOf E.T 0 args fn.params.toList) args ins (fun r o => some (r, o)) = X := by kernel_rfl) : tbl E f args ins = some r :=
  z10j hf hb hc hX (hr.trans h)
theorem ltblF {E : Env} {f key id : Nat} {fn : Func} {vs : List AV} {os : List (List AV)} {r : LR} {X : Option LR} (hf : E.P.funcs[f]? = some fn) (h : X = some r) (hb : fn.body = some (bodyOf fn) := by kernel_rfl)
    (hc : (codeOK fn.ntmps (loopB (E.an f key) (bodyOf fn) id) && ckOK (E.an f key) (bodyOf fn)) = true := by kernel_rfl)
    (hr : roundV (OA (tbl E) (ltbl E f key)) id ((E.an f key).loop id) ((E.an f key).out id) (fun env objs cl k => run (OA (tbl E) (ltbl E f key)) E.T (E.an f key) (loopB (E.an f key) (bodyOf fn) id) env objs cl k) vs os (fun vs os => ltbl E f key id vs os) (fun j vs os => some (j, vs, os)) = X := by kernel_rfl) : ltbl E f key id vs os = some r :=
  zy0 hf hb hc (hr.trans h)
@[simp] theorem r_b0' {β : Type} (x y : β) : (bif Nat.beq 0 0 then x else y) = x := Eq.trans rfl rfl
@[simp] theorem nbeq (a b : Nat) : Nat.beq a b = decide (a = b) := by rw [Bool.eq_iff_iff, Nat.beq_eq, decide_eq_true_eq]
theorem beq_f {α : Type} [BEq α] [LawfulBEq α] {a b : α} (h : a ≠ b) : (a == b) = false := by simpa using h
theorem bne_t {α : Type} [BEq α] [LawfulBEq α] {a b : α} (h : a ≠ b) : (a != b) = true := by simpa using h
@[simp] theorem zuu {α β : Type} [DecidableEq α] [BEq α] [LawfulBEq α] (a b : α) (x y : β) : (bif a == b then x else y) = if a = b then x else y := by
  by_cases h : a = b
  · subst h; simp
  · rw [beq_f h, if_neg h]; rfl
@[simp] theorem z12s {α β : Type} [DecidableEq α] [BEq α] [LawfulBEq α] (a b : α) (x y : β) : (bif a != b then x else y) = if a = b then y else x := by
  by_cases h : a = b
  · subst h; simp
  · rw [bne_t h, if_neg h]; rfl
@[simp] theorem zv (a : Nm) : Nm.beq a a = true := Nm.beq_iff.2 rfl
end Go.Proofs.YtjkjhgfiaodgmaaGreat.V
namespace Go.Proofs.YtjkjhgfiaodgmaaGreat.V
open Go
theorem znr (n : Int) : IntKind.u8.wrap n = n % 256 := by simp [IntKind.wrap, IntKind.signed, IntKind.bits]
theorem zjt (n : Int) : IntKind.u64.wrap n = n % 18446744073709551616 := by simp [IntKind.wrap, IntKind.signed, IntKind.bits]
theorem wrap_i64 (n : Int) (h : -9223372036854775808 ≤ n) (h' : n ≤ 9223372036854775807) : IntKind.i64.wrap n = n := by
  have e : IntKind.i64.wrap n = if decide (n % 18446744073709551616 ≥ (9223372036854775808 : Int)) = true then n % 18446744073709551616 - 18446744073709551616 else n % 18446744073709551616 := by
    simp [IntKind.wrap, IntKind.signed, IntKind.bits]
  rw [e]
  split <;> rename_i hh <;> simp only [decide_eq_true_eq] at hh <;> omega
@[simp] theorem z122 : IntKind.i64.wrap 0 = 0 := wrap_i64 0 (by decide) (by decide)
theorem z3n {n : Int} (h : 0 ≤ n) (h' : n < 18446744073709551616) : IntKind.u64.wrap n = n := by rw [zjt]; omega
theorem zec {n : Int} (h : 0 ≤ n) (h' : n < 256) : IntKind.u8.wrap n = n := by rw [znr]; omega
theorem z2h : encB [] = [] := rfl
theorem z5a (c : UInt8) (b : List UInt8) : encB (c :: b) = .int .u8 (c.toNat : Int) :: encB b := rfl
theorem zp (a b : List UInt8) : encB (a ++ b) = encB a ++ encB b := by simp [encB]
@[simp] theorem z3o (b : List UInt8) : (encB b).length = b.length := by simp [encB]
@[simp] theorem z9s : ∀ (b : List UInt8), bytesOf (encB b) = some b
  | [] => rfl
  | c :: b => by rw [z5a, bytesOf, z9s b]; simp
def byt (n : Nat) : UInt8 := UInt8.ofNat n
theorem z1v {n : Nat} (h : n < 256) : (byt n).toNat = n := by simp [byt]; omega
theorem or128 : ∀ n : Nat, n < 256 → bits .or .u8 (n : Int) 128 = ((n % 128 + 128 : Nat) : Int) := by decide +kernel
theorem toNat_ofInt (n : Int) : (BitVec.ofInt 64 n).toNat = (n % 18446744073709551616).toNat := by simp [BitVec.toNat_ofInt]
def zz (n : Int) : Nat := if n < 0 then (2 * (-(n + 1)) + 1).toNat else (2 * n).toNat
theorem zz_lt {n : Int} (h : -9223372036854775808 ≤ n) (h' : n ≤ 9223372036854775807) : zz n < 18446744073709551616 := by unfold zz; split <;> omega
theorem zuw (x : BitVec 64) : x ^^^ BitVec.ofInt 64 18446744073709551615 = ~~~x := by
  rw [show BitVec.ofInt 64 18446744073709551615 = BitVec.allOnes 64 by decide, BitVec.xor_allOnes]
theorem fdiv63 {n : Int} (h : -9223372036854775808 ≤ n) (h' : n ≤ 9223372036854775807) : n.fdiv ((2 : Int) ^ (63 : Nat)) = if n < 0 then -1 else 0 := by
  rw [Int.fdiv_eq_ediv_of_nonneg _ (by decide), show (2 : Int) ^ 63 = 9223372036854775808 by decide]
  split <;> omega
theorem zrk {n : Int} (h : -9223372036854775808 ≤ n) (h' : n ≤ 9223372036854775807) :
    bits .xor .u64 (IntKind.u64.wrap (IntKind.u64.wrap n * (2 : Int) ^ (1 : Nat))) (IntKind.u64.wrap (n.fdiv ((2 : Int) ^ (63 : Nat)))) = ((zz n : Nat) : Int) := by
  rw [fdiv63 h h']; have h2 : ∀ x y : Int, bits .xor .u64 x y = IntKind.u64.wrap ((BitVec.ofInt 64 x ^^^ BitVec.ofInt 64 y).toNat : Nat) := fun _ _ => rfl; rw [h2]; simp only [zjt]; unfold zz
  split
  · rw [show (-1 : Int) % 18446744073709551616 = 18446744073709551615 by decide, zuw, BitVec.toNat_not, toNat_ofInt]
    omega
  · rw [show (0 : Int) % 18446744073709551616 = 0 by decide, show BitVec.ofInt 64 0 = 0#64 by decide, BitVec.xor_zero, toNat_ofInt]
    omega
end Go.Proofs.YtjkjhgfiaodgmaaGreat.V
namespace Go.Proofs.YtjkjhgfiaodgmaaGreat.V
open Go
variable {H : Type} {T : Tab} {n t : Nat} {d : DataW H} {xs : List AV}
theorem zns {k : IntKind} (h : (T.ty t).k = .int k) (hf : Fit T (n + 1) t d xs) : ∃ z, (k.min ≤ z ∧ z ≤ k.max) ∧ d = .lit (.int k z) ∧ xs = [.int k z] := by
  unfold Fit at hf; rw [h] at hf; obtain ⟨z, hw, h1, h2⟩ := hf
  exact ⟨z, by simpa [Lit.wf] using hw, h1, h2⟩
theorem z1j (h : (T.ty t).k = .int .i64) (hf : Fit T (n + 1) t d xs) : ∃ z : Int, (-9223372036854775808 ≤ z ∧ z ≤ 9223372036854775807) ∧ d = .lit (.int .i64 z) ∧ xs = [.int .i64 z] := by
  obtain ⟨z, hz, h1, h2⟩ := zns h hf
  exact ⟨z, by simpa [IntKind.min, IntKind.max, IntKind.signed, IntKind.bits] using hz, h1, h2⟩
theorem zy1 (h : (T.ty t).k = .str) (hf : Fit T (n + 1) t d xs) : ∃ s : List UInt8, d = .lit (.string s) ∧ xs = [.str s] := by
  unfold Fit at hf; rw [h] at hf; exact hf
theorem z48 {e : Nat} (h : (T.ty t).k = .slice e) (hf : Fit T (n + 1) t d xs) : ∃ (ds sp : List (DataW H)) (l : List AV), (d = .slice ds sp ∨ (d = .nil ∧ ds = [])) ∧ xs = [.lst .ro (T.ty e).size l] ∧ Each (fun d x => ∃ ys, Fit T n e d ys ∧ ElemOf (T.ty e) x ys) ds l := by
  unfold Fit at hf; rw [h] at hf; exact hf
theorem z3i {fs : List (Nat × Nat)} (h : (T.ty t).k = .struct fs) (hf : Fit T (n + 1) t d xs) : ∃ (ds : List (DataW H)) (yss : List (List AV)), d = .agg ds ∧ xs = yss.flatten ∧ Each3 (fun f d ys => Fit T n f.2 d ys) fs ds yss := by
  unfold Fit at hf; rw [h] at hf; exact hf
theorem z2d {α β γ : Type} {R : α → β → γ → Prop} {l : List β} {r : List γ} (h : Each3 R [] l r) : l = [] ∧ r = [] := by
  cases l <;> cases r <;> first | exact ⟨rfl, rfl⟩ | exact h.elim
theorem zm {α β γ : Type} {R : α → β → γ → Prop} {a : α} {as1 : List α} {l : List β} {r : List γ} (h : Each3 R (a :: as1) l r) : ∃ b bs c cs, l = b :: bs ∧ r = c :: cs ∧ R a b c ∧ Each3 R as1 bs cs := by
  cases l <;> cases r <;> first | exact h.elim | exact ⟨_, _, _, _, rfl, rfl, h.1, h.2⟩
theorem z3v {α β γ : Type} {R : α → β → Prop} {f : γ → β} {Q : α → γ → Prop} (hR : ∀ a b, R a b → ∃ c, b = f c ∧ Q a c) : ∀ {l : List α} {r : List β}, Each R l r → ∃ cs : List γ, r = cs.map f ∧ Each Q l cs
  | [], [], _ => ⟨[], rfl, trivial⟩
  | a :: l, b :: r, h => by
    obtain ⟨c, e, q⟩ := hR a b h.1; obtain ⟨cs, e2, q2⟩ := z3v hR h.2
    exact ⟨c :: cs, by rw [e, e2]; rfl, q, q2⟩
  | [], _ :: _, h => h.elim
  | _ :: _, [], h => h.elim
theorem z4u {td : TD} (h : td.isAgg = true) {x : AV} {ys : List AV} (he : ElemOf td x ys) : x = .agg ys := by
  unfold ElemOf at he; rw [h] at he; simpa using he
theorem zcq {td : TD} (h : td.isAgg = false) {x : AV} {ys : List AV} (he : ElemOf td x ys) : ys = [x] := by
  unfold ElemOf at he; rw [h] at he; simpa using he
theorem z7i {enc : TypeId × Value → H} {P : Program} {w : World} {base : Nat} {spare : Nat → Bool} {held : Bool} : ∀ {ts : List TypeId} {vs : List Value} {ds : List (DataW H)} {ps : List MemPlace}, DataW.TrodAll enc P w base spare held ts vs ds ps → ds.length = ts.length
  | [], [], [], _, _ => rfl
  | _ :: _, _ :: _, _ :: _, _, ⟨_, _, _, h, _⟩ => by simp [z7i h]
  | [], [], _ :: _, _, h => h.elim
  | [], _ :: _, _, _, h => by cases ‹List (DataW H)› <;> exact h.elim
  | _ :: _, [], _, _, h => by cases ‹List (DataW H)› <;> exact h.elim
  | _ :: _, _ :: _, [], _, h => h.elim
end Go.Proofs.YtjkjhgfiaodgmaaGreat.V
namespace Go.Proofs.YtjkjhgfiaodgmaaGreat.V
open Go
structure Fld where
  id : Int
  kind : Int
  lo : Int
  hi : Int
  most : Int
  deriving DecidableEq
structure Frm where
  id : Int
  fields : List Fld
  deriving DecidableEq
structure Sch where
  ver : Int
  forms : List Frm
  deriving DecidableEq
abbrev fldC (f : Fld) : List AV := [.int .i64 f.id, .int .i64 f.kind, .int .i64 f.lo, .int .i64 f.hi, .int .i64 f.most]
abbrev fldV (f : Fld) : AV := AV.agg (fldC f)
abbrev fldsV (l : List Fld) : AV := AV.lst .ro 5 (l.map fldV)
abbrev frmV (f : Frm) : AV := AV.agg [.int .i64 f.id, fldsV f.fields]
abbrev frmsV (l : List Frm) : AV := AV.lst .ro 2 (l.map frmV)
abbrev schV (s : Sch) : AV := AV.agg [.int .i64 s.ver, frmsV s.forms]
def i64 (n : Int) : Prop := -9223372036854775808 ≤ n ∧ n ≤ 9223372036854775807
def Fld.ok (f : Fld) : Prop := i64 f.id ∧ i64 f.kind ∧ i64 f.lo ∧ i64 f.hi ∧ i64 f.most
def Frm.ok (f : Frm) : Prop := i64 f.id ∧ ∀ x ∈ f.fields, x.ok
def Sch.ok (s : Sch) : Prop := i64 s.ver ∧ ∀ x ∈ s.forms, x.ok
def rgtS (f : Fld) : Bool :=
  decide (0 ≤ f.id ∧ f.id ≤ 255) &&
  (if f.kind = 1 then decide (-1099511627776 ≤ f.lo ∧ f.lo ≤ f.hi ∧ f.hi ≤ 1099511627776 ∧ f.most = 0)
   else if f.kind = 2 then decide (f.lo = 0 ∧ f.hi = 0 ∧ f.most = 0)
   else if f.kind = 3 then decide (f.lo = 0 ∧ f.hi = 0 ∧ 1 ≤ f.most ∧ f.most ≤ 1000)
   else if f.kind = 4 then decide (f.lo = 0 ∧ f.hi = 0 ∧ 0 ≤ f.most ∧ f.most ≤ 32)
   else false)
def wdS (n : Nat) : Nat := if h : n = 0 then 0 else wdS (n / 256) + 1
termination_by n
decreasing_by omega
def loS (f : Fld) : Int := if f.kind = 1 then f.lo else 0
def hiS (f : Fld) : Int := if f.kind = 1 then f.hi else if f.kind = 2 then 1 else if f.kind = 3 then f.most - 1 else 0
def sizeS (f : Fld) : Int := if rgtS f then (if f.kind = 4 then f.most + 1 else (wdS (hiS f - loS f).toNat : Nat)) else 0
def longS (l : List Fld) : Int := (l.map sizeS).sum
def nodupI : List Int → Bool
  | [] => true
  | x :: l => !(l.any fun y => y == x) && nodupI l
def fineS (f : Frm) : Bool := decide (0 ≤ f.id ∧ f.id ≤ 200) && decide (1 ≤ f.fields.length ∧ f.fields.length ≤ 8) && decide (longS f.fields ≤ 64) && f.fields.all rgtS && nodupI (f.fields.map Fld.id)
def risingS : Int → List Frm → Bool
  | _, [] => true
  | last, f :: l => fineS f && decide (last < f.id) && risingS f.id l
def schS (s : Sch) : Bool := decide (1 ≤ s.ver ∧ s.ver ≤ 65535) && decide (s.forms.length ≤ 8) && risingS (-1) s.forms
def firstS {α : Type} (p : α → Bool) (l : List α) : Int := match l.findIdx? p with | some i => (i : Nat) | none => -1
end Go.Proofs.YtjkjhgfiaodgmaaGreat.V
namespace Go.Proofs.YtjkjhgfiaodgmaaGreat.V
open Go
open AV (int lst agg str bool ref clo)
open List (map)
def zjv {α : Type} (A : Alg α) (f : Fld) (kc : List AV → List (Nat × List AV) → α) : α :=
  A.join (fun x0 => bif (decide (f.id < (0 : Int))) then (x0 true) else (x0 (decide (f.id > (255 : Int))))) fun b1 => bif b1 then (kc [bool false] []) else (A.join (fun x2 => bif (f.lo == (0 : Int)) then (x2 (f.hi == (0 : Int))) else (x2 false)) fun b3 => bif (f.kind == (1 : Int)) then (A.join (fun x4 => bif (decide (f.lo ≥ (-1099511627776 : Int))) then (bif (decide (f.lo ≤ f.hi)) then (bif (decide (f.hi ≤ (1099511627776 : Int))) then (x4 (f.most == (0 : Int))) else (x4 false)) else (x4 false)) else (x4 false)) fun b5 => kc [bool b5] []) else (bif (f.kind == (2 : Int)) then (A.join (fun x6 => bif b3 then (x6 (f.most == (0 : Int))) else (x6 false)) fun b7 => kc [bool b7] []) else (bif (f.kind == (3 : Int)) then (A.join (fun x8 => bif b3 then (bif (decide (f.most ≥ (1 : Int))) then (x8 (decide (f.most ≤ (1000 : Int)))) else (x8 false)) else (x8 false)) fun b9 => kc [bool b9] []) else (bif (f.kind == (4 : Int)) then (A.join (fun x10 => bif b3 then (bif (decide (f.most ≥ (0 : Int))) then (x10 (decide (f.most ≤ (32 : Int)))) else (x10 false)) else (x10 false)) fun b11 => kc [bool b11] []) else (kc [bool false] [])))))
def z9v {α : Type} (A : Alg α) (f : Fld) (kc : List AV → List (Nat × List AV) → α) : α :=
  bif (f.kind == (1 : Int)) then (kc [iV f.lo, iV f.hi] []) else (bif (f.kind == (2 : Int)) then (kc [iV 0, iV 1] []) else (bif (f.kind == (3 : Int)) then (kc [iV 0, iV (IntKind.i64.wrap (f.most - (1 : Int)))] []) else (kc [iV 0, iV 0] [])))
def zcr {α : Type} (A : Alg α) (n : Int) (kc : List AV → List (Nat × List AV) → α) : α :=
  A.loop 2 [iV n, iV 0] [] fun j0 l1 l2 => bif (j0.beq 1) then (aI A l1 fun n5 l4 => asN A l4 (asN A l2 (kc [iV n5] []))) else A.fail
def znt {α : Type} (A : Alg α) (f : Fld) (kc : List AV → List (Nat × List AV) → α) : α :=
  A.callx 105 [agg [iV f.id, iV f.kind, iV f.lo, iV f.hi, iV f.most]] fun l0 => aI A l0 fun n3 l2 => aI A l2 fun n6 l5 => asN A l5 (A.callx 106 [iV (IntKind.i64.wrap (n6 - n3))] fun l7 => aI A l7 fun n10 l9 => asN A l9 (kc [iV n10] []))
def znu {α : Type} (A : Alg α) (f : Fld) (kc : List AV → List (Nat × List AV) → α) : α :=
  A.callx 37 [agg [iV f.id, iV f.kind, iV f.lo, iV f.hi, iV f.most]] fun l0 => aB A l0 fun b3 l2 => asN A l2 (bif (!b3) then (kc [iV 0] []) else (bif (f.kind == (4 : Int)) then (kc [iV (IntKind.i64.wrap (f.most + (1 : Int)))] []) else (bif (f.kind == (2 : Int)) then (kc [iV 1] []) else (A.callx 81 [agg [iV f.id, iV f.kind, iV f.lo, iV f.hi, iV f.most]] fun l4 => aI A l4 fun n7 l6 => asN A l6 (kc [iV n7] [])))))
def z5o {α : Type} (A : Alg α) (f : Fld) (kc : List AV → List (Nat × List AV) → α) : α :=
  A.join (fun x0 => bif (decide (f.id ≥ (0 : Int))) then (x0 (decide (f.id ≤ (255 : Int)))) else (x0 false)) fun b1 => bif (f.kind == (1 : Int)) then (bif b1 then (bif (decide (f.lo ≥ (-1099511627776 : Int))) then (bif (decide (f.hi ≤ (1099511627776 : Int))) then (bif (decide (f.lo ≤ f.hi)) then (kc [iV f.lo, iV f.hi, iV 0, bool (f.most == (0 : Int))] []) else (kc [iV f.lo, iV f.hi, iV 0, bool false] [])) else (kc [iV f.lo, iV f.hi, iV 0, bool false] [])) else (kc [iV f.lo, iV f.hi, iV 0, bool false] [])) else (kc [iV f.lo, iV f.hi, iV 0, bool false] [])) else (bif (f.kind == (2 : Int)) then (bif b1 then (bif (f.lo == (0 : Int)) then (bif (f.hi == (0 : Int)) then (kc [iV 0, iV 1, iV 0, bool (f.most == (0 : Int))] []) else (kc [iV 0, iV 1, iV 0, bool false] [])) else (kc [iV 0, iV 1, iV 0, bool false] [])) else (kc [iV 0, iV 1, iV 0, bool false] [])) else (bif (f.kind == (3 : Int)) then (bif b1 then (bif (f.lo == (0 : Int)) then (bif (f.hi == (0 : Int)) then (bif (decide (f.most ≥ (1 : Int))) then (kc [iV 0, iV (IntKind.i64.wrap (f.most - (1 : Int))), iV 0, bool (decide (f.most ≤ (1000 : Int)))] []) else (kc [iV 0, iV (IntKind.i64.wrap (f.most - (1 : Int))), iV 0, bool false] [])) else (kc [iV 0, iV (IntKind.i64.wrap (f.most - (1 : Int))), iV 0, bool false] [])) else (kc [iV 0, iV (IntKind.i64.wrap (f.most - (1 : Int))), iV 0, bool false] [])) else (kc [iV 0, iV (IntKind.i64.wrap (f.most - (1 : Int))), iV 0, bool false] [])) else (bif (f.kind == (4 : Int)) then (bif b1 then (bif (f.lo == (0 : Int)) then (bif (f.hi == (0 : Int)) then (bif (decide (f.most ≥ (0 : Int))) then (kc [iV 0, iV 0, iV f.most, bool (decide (f.most ≤ (32 : Int)))] []) else (kc [iV 0, iV 0, iV f.most, bool false] [])) else (kc [iV 0, iV 0, iV f.most, bool false] [])) else (kc [iV 0, iV 0, iV f.most, bool false] [])) else (kc [iV 0, iV 0, iV f.most, bool false] [])) else (kc [iV 0, iV 0, iV 0, bool false] []))))
def zjw {α : Type} (A : Alg α) (f : Fld) (kc : List AV → List (Nat × List AV) → α) : α :=
  A.callx 71 [agg [iV f.id, iV f.kind, iV f.lo, iV f.hi, iV f.most]] fun l0 => aI A l0 fun n3 l2 => aI A l2 fun n6 l5 => aI A l5 fun n9 l8 => aB A l8 fun b12 l11 => asN A l11 (kc [bool b12] [])
def zfu {α : Type} (A : Alg α) (n : Int) (kc : List AV → List (Nat × List AV) → α) : α :=
  A.loop 2 [iV n, iV 0] [] fun j0 l1 l2 => bif (j0.beq 1) then (aI A l1 fun n5 l4 => asN A l4 (asN A l2 (kc [iV n5] []))) else A.fail
def znv {α : Type} (A : Alg α) (f : Fld) (kc : List AV → List (Nat × List AV) → α) : α :=
  A.callx 71 [agg [iV f.id, iV f.kind, iV f.lo, iV f.hi, iV f.most]] fun l0 => aI A l0 fun n3 l2 => aI A l2 fun n6 l5 => aI A l5 fun n9 l8 => aB A l8 fun b12 l11 => asN A l11 (bif (!b12) then (kc [iV 0] []) else (bif (f.kind == (4 : Int)) then (kc [iV (IntKind.i64.wrap ((1 : Int) + n9))] []) else (A.callx 103 [iV (IntKind.i64.wrap (n6 - n3))] fun l13 => aI A l13 fun n16 l15 => asN A l15 (kc [iV n16] []))))
def znw {α : Type} (A : Alg α) (f : Frm) (kc : List AV → List (Nat × List AV) → α) : α :=
  A.loop 3 [iV 0, lst .ro 5 (map fldV f.fields), iV (↑(map fldV f.fields).length : Int), iV 0] [] fun j0 l1 l2 => bif (j0.beq 1) then (aI A l1 fun n5 l4 => asN A l4 (asN A l2 (kc [iV n5] []))) else A.fail
def znx {α : Type} (A : Alg α) (f : Frm) (kc : List AV → List (Nat × List AV) → α) : α :=
  A.loop 3 [iV 0, iV 0] [[iV f.id, lst .ro 5 (map fldV f.fields)]] fun j0 l1 l2 => bif (j0.beq 1) then (aI A l1 fun n5 l4 => asN A l4 (asN A l2 (kc [iV n5] []))) else A.fail
def zny {α : Type} (A : Alg α) (f : Frm) (kc : List AV → List (Nat × List AV) → α) : α :=
  A.join (fun x0 => bif (decide (f.id < (0 : Int))) then (x0 true) else (bif (decide (f.id > (200 : Int))) then (x0 true) else (bif (decide ((↑(map fldV f.fields).length : Int) < (1 : Int))) then (x0 true) else (bif (decide ((↑(map fldV f.fields).length : Int) > (8 : Int))) then (x0 true) else (A.callx 36 [agg [iV f.id, lst .ro 5 (map fldV f.fields)]] fun l1 => aI A l1 fun n4 l3 => asN A l3 (x0 (decide (n4 > (64 : Int))))))))) fun b5 => bif b5 then (kc [bool false] []) else (A.loop 5 [lst .ro 5 (map fldV f.fields), iV (↑(map fldV f.fields).length : Int), iV 0] [[bool false, bool false, bool false, bool false, bool false, bool false, bool false, bool false, bool false, bool false, bool false, bool false, bool false, bool false, bool false, bool false, bool false, bool false, bool false, bool false, bool false, bool false, bool false, bool false, bool false, bool false, bool false, bool false, bool false, bool false, bool false, bool false, bool false, bool false, bool false, bool false, bool false, bool false, bool false, bool false, bool false, bool false, bool false, bool false, bool false, bool false, bool false, bool false, bool false, bool false, bool false, bool false, bool false, bool false, bool false, bool false, bool false, bool false, bool false, bool false, bool false, bool false, bool false, bool false, bool false, bool false, bool false, bool false, bool false, bool false, bool false, bool false, bool false, bool false, bool false, bool false, bool false, bool false, bool false, bool false, bool false, bool false, bool false, bool false, bool false, bool false, bool false, bool false, bool false, bool false, bool false, bool false, bool false, bool false, bool false, bool false, bool false, bool false, bool false, bool false, bool false, bool false, bool false, bool false, bool false, bool false, bool false, bool false, bool false, bool false, bool false, bool false, bool false, bool false, bool false, bool false, bool false, bool false, bool false, bool false, bool false, bool false, bool false, bool false, bool false, bool false, bool false, bool false, bool false, bool false, bool false, bool false, bool false, bool false, bool false, bool false, bool false, bool false, bool false, bool false, bool false, bool false, bool false, bool false, bool false, bool false, bool false, bool false, bool false, bool false, bool false, bool false, bool false, bool false, bool false, bool false, bool false, bool false, bool false, bool false, bool false, bool false, bool false, bool false, bool false, bool false, bool false, bool false, bool false, bool false, bool false, bool false, bool false, bool false, bool false, bool false, bool false, bool false, bool false, bool false, bool false, bool false, bool false, bool false, bool false, bool false, bool false, bool false, bool false, bool false, bool false, bool false, bool false, bool false, bool false, bool false, bool false, bool false, bool false, bool false, bool false, bool false, bool false, bool false, bool false, bool false, bool false, bool false, bool false, bool false, bool false, bool false, bool false, bool false, bool false, bool false, bool false, bool false, bool false, bool false, bool false, bool false, bool false, bool false, bool false, bool false, bool false, bool false, bool false, bool false, bool false, bool false, bool false, bool false, bool false, bool false, bool false, bool false, bool false, bool false, bool false, bool false, bool false, bool false, bool false, bool false, bool false, bool false, bool false, bool false, bool false, bool false, bool false, bool false, bool false, bool false]] fun j6 l7 l8 => bif (j6.beq 0) then (aB A l7 fun b11 l10 => asN A l10 (asN A l8 (kc [bool b11] []))) else (bif (j6.beq 1) then (asN A l7 (asN A l8 (kc [bool true] []))) else A.fail))
def znz {α : Type} (A : Alg α) (f : Frm) (kc : List AV → List (Nat × List AV) → α) : α :=
  A.join (fun x0 => bif (decide (f.id < (0 : Int))) then (x0 true) else (bif (decide (f.id > (200 : Int))) then (x0 true) else (bif (decide ((↑(map fldV f.fields).length : Int) < (1 : Int))) then (x0 true) else (x0 (decide ((↑(map fldV f.fields).length : Int) > (8 : Int))))))) fun b1 => bif b1 then (kc [bool false] []) else (A.loop 4 [iV 0] [[iV f.id, lst .ro 5 (map fldV f.fields)]] fun j2 l3 l4 => bif (j2.beq 0) then (aB A l3 fun b7 l6 => asN A l6 (asN A l4 (kc [bool b7] []))) else (bif (j2.beq 1) then (asN A l3 (asC A l4 fun l8 l9 => aI A l8 fun n12 l11 => aL A 5 l11 fun l15 l14 => asN A l14 (asN A l9 (A.callx 46 [agg [iV n12, lst .ro 5 l15]] fun l16 => aI A l16 fun n19 l18 => asN A l18 (kc [bool (decide (n19 ≤ (64 : Int)))] []))))) else A.fail))
def s_sAt {α : Type} (A : Alg α) (f : Frm) (id : Int) (kc : List AV → List (Nat × List AV) → α) : α :=
  A.callx 112 [lst .ro 5 (map fldV f.fields), clo 113 [AV.rp [iV id] 0]] fun l0 => aI A l0 fun n3 l2 => asN A l2 (kc [iV n3] [])
def zrl {α : Type} (A : Alg α) (f : Fld) (id : Int) (kc : List AV → List (Nat × List AV) → α) : α :=
  kc [bool (f.id == id)] []
def zc1 {α : Type} (A : Alg α) (l : List Fld) (id : Int) (kc : List AV → List (Nat × List AV) → α) : α :=
  A.loop 2 [lst .ro 5 (map fldV l), clo 113 [AV.rp [iV id] 0], iV (↑(map fldV l).length : Int), iV 0] [] fun j0 l1 l2 => bif (j0.beq 0) then (aI A l1 fun n5 l4 => asN A l4 (asN A l2 (kc [iV n5] []))) else (bif (j0.beq 1) then (asN A l1 (asN A l2 (kc [iV (-1)] []))) else A.fail)
def s_yAt {α : Type} (A : Alg α) (f : Frm) (id : Int) (kc : List AV → List (Nat × List AV) → α) : α :=
  A.loop 2 [iV id, iV 0] [[iV f.id, lst .ro 5 (map fldV f.fields)]] fun j0 l1 l2 => bif (j0.beq 0) then (aI A l1 fun n5 l4 => asN A l4 (asN A l2 (kc [iV n5] []))) else (bif (j0.beq 1) then (asN A l1 (asN A l2 (kc [iV (-1)] []))) else A.fail)
def zjx {α : Type} (A : Alg α) (s : Sch) (kc : List AV → List (Nat × List AV) → α) : α :=
  A.join (fun x0 => bif (decide (s.ver < (1 : Int))) then (x0 true) else (bif (decide (s.ver > (65535 : Int))) then (x0 true) else (x0 (decide ((↑(map frmV s.forms).length : Int) > (8 : Int)))))) fun b1 => bif b1 then (kc [bool false] []) else (A.loop 5 [iV (-1), lst .ro 2 (map frmV s.forms), iV (↑(map frmV s.forms).length : Int), iV 0] [] fun j2 l3 l4 => bif (j2.beq 0) then (aB A l3 fun b7 l6 => asN A l6 (asN A l4 (kc [bool b7] []))) else (bif (j2.beq 1) then (asN A l3 (asN A l4 (kc [bool true] []))) else A.fail))
def zgu {α : Type} (A : Alg α) (s : Sch) (kc : List AV → List (Nat × List AV) → α) : α :=
  A.join (fun x0 => bif (decide (s.ver < (1 : Int))) then (x0 true) else (bif (decide (s.ver > (65535 : Int))) then (x0 true) else (x0 (decide ((↑(map frmV s.forms).length : Int) > (8 : Int)))))) fun b1 => bif b1 then (kc [bool false] []) else (A.loop 4 [iV 0] [[iV s.ver, lst .ro 2 (map frmV s.forms)]] fun j2 l3 l4 => bif (j2.beq 0) then (aB A l3 fun b7 l6 => asN A l6 (asN A l4 (kc [bool b7] []))) else (bif (j2.beq 1) then (asN A l3 (asN A l4 (kc [bool true] []))) else A.fail))
def zfv {α : Type} (A : Alg α) (s : Sch) (id : Int) (kc : List AV → List (Nat × List AV) → α) : α :=
  A.loop 2 [iV id, lst .ro 2 (map frmV s.forms), iV (↑(map frmV s.forms).length : Int), iV 0] [[iV 0, lst .ro 5 []]] fun j0 l1 l2 => bif (j0.beq 0) then (aB A l1 fun b5 l4 => asN A l4 (asC A l2 fun l6 l7 => aI A l6 fun n10 l9 => aL A 5 l9 fun l13 l12 => asN A l12 (asN A l7 (kc [agg [iV n10, lst .ro 5 l13], bool b5] [])))) else (bif (j0.beq 1) then (asN A l1 (asC A l2 fun l14 l15 => aI A l14 fun n18 l17 => aL A 5 l17 fun l21 l20 => asN A l20 (asN A l15 (kc [agg [iV 0, lst .ro 5 []], bool false] [])))) else A.fail)
def zo0 {α : Type} (A : Alg α) (s : Sch) (id : Int) (kc : List AV → List (Nat × List AV) → α) : α :=
  A.loop 2 [iV id, iV 0] [[iV s.ver, lst .ro 2 (map frmV s.forms)]] fun j0 l1 l2 => bif (j0.beq 0) then (aI A l1 fun n5 l4 => asN A l4 (asN A l2 (kc [iV n5] []))) else (bif (j0.beq 1) then (asN A l1 (asN A l2 (kc [iV (-1)] []))) else A.fail)
def zc2 {α : Type} (A : Alg α) (a : Frm) (b : Frm) (kc : List AV → List (Nat × List AV) → α) : α :=
  A.join (fun x0 => bif (a.id != b.id) then (x0 true) else (x0 ((↑(map fldV a.fields).length : Int) != (↑(map fldV b.fields).length : Int)))) fun b1 => bif b1 then (kc [bool false] []) else (A.loop 4 [iV 0] [[iV a.id, lst .ro 5 (map fldV a.fields)], [iV b.id, lst .ro 5 (map fldV b.fields)]] fun j2 l3 l4 => bif (j2.beq 0) then (aB A l3 fun b7 l6 => asN A l6 (asN A l4 (kc [bool b7] []))) else (bif (j2.beq 1) then (asN A l3 (asN A l4 (kc [bool true] []))) else A.fail))
def zo1 {α : Type} (A : Alg α) (a : Sch) (b : Sch) (kc : List AV → List (Nat × List AV) → α) : α :=
  A.join (fun x0 => bif (a.ver == b.ver) then (A.callx 27 [lst .ro 2 (map frmV a.forms), lst .ro 2 (map frmV b.forms), clo 28 []] fun l1 => aB A l1 fun b4 l3 => asN A l3 (x0 b4)) else (x0 false)) fun b5 => kc [bool b5] []
def zjy {α : Type} (A : Alg α) (a : Frm) (b : Frm) (kc : List AV → List (Nat × List AV) → α) : α :=
  A.join (fun x0 => bif (a.id == b.id) then (A.callx 29 [lst .ro 5 (map fldV a.fields), lst .ro 5 (map fldV b.fields)] fun l1 => aB A l1 fun b4 l3 => asN A l3 (x0 b4)) else (x0 false)) fun b5 => kc [bool b5] []
def zc3 {α : Type} (A : Alg α) (a : List Frm) (b : List Frm) (kc : List AV → List (Nat × List AV) → α) : α :=
  bif ((↑(map frmV a).length : Int) != (↑(map frmV b).length : Int)) then (kc [bool false] []) else (A.loop 4 [lst .ro 2 (map frmV b), clo 28 [], lst .ro 2 (map frmV a), iV (↑(map frmV a).length : Int), iV 0] [] fun j0 l1 l2 => bif (j0.beq 0) then (aB A l1 fun b5 l4 => asN A l4 (asN A l2 (kc [bool b5] []))) else (bif (j0.beq 1) then (asN A l1 (asN A l2 (kc [bool true] []))) else A.fail))
def zjz {α : Type} (A : Alg α) (a : List Fld) (b : List Fld) (kc : List AV → List (Nat × List AV) → α) : α :=
  bif ((↑(map fldV a).length : Int) != (↑(map fldV b).length : Int)) then (kc [bool false] []) else (A.loop 4 [lst .ro 5 (map fldV a), lst .ro 5 (map fldV b), iV (↑(map fldV a).length : Int), iV 0] [] fun j0 l1 l2 => bif (j0.beq 0) then (aB A l1 fun b5 l4 => asN A l4 (asN A l2 (kc [bool b5] []))) else (bif (j0.beq 1) then (asN A l1 (asN A l2 (kc [bool true] []))) else A.fail))
def zo2 {α : Type} (A : Alg α) (a : Sch) (b : Sch) (kc : List AV → List (Nat × List AV) → α) : α :=
  A.join (fun x0 => bif (a.ver != b.ver) then (x0 true) else (x0 ((↑(map frmV a.forms).length : Int) != (↑(map frmV b.forms).length : Int)))) fun b1 => bif b1 then (kc [bool false] []) else (A.loop 4 [iV 0] [[iV a.ver, lst .ro 2 (map frmV a.forms)], [iV b.ver, lst .ro 2 (map frmV b.forms)]] fun j2 l3 l4 => bif (j2.beq 0) then (aB A l3 fun b7 l6 => asN A l6 (asN A l4 (kc [bool b7] []))) else (bif (j2.beq 1) then (asN A l3 (asN A l4 (kc [bool true] []))) else A.fail))
def z6p {α : Type} (A : Alg α) (n : Int) (w : Int) (next : List AV → List (List AV) → α) (kc : Nat → List AV → List (List AV) → α) : α :=
  bif (decide (n > (0 : Int))) then (next [iV (n.fdiv ((2 : Int) ^ (8 : Nat))), iV (IntKind.i64.wrap (w + (1 : Int)))] []) else (kc 1 [iV w] [])
def z89 {α : Type} (A : Alg α) (n : Int) (w : Int) (next : List AV → List (List AV) → α) (kc : Nat → List AV → List (List AV) → α) : α :=
  bif (decide (n > (0 : Int))) then (next [iV (IntKind.i64.wrap (n.tdiv (256 : Int))), iV (IntKind.i64.wrap (w + (1 : Int)))] []) else (kc 1 [iV w] [])
def zcs {α : Type} (A : Alg α) (l : List Fld) (n : Int) (m : Int) (i : Int) (next : List AV → List (List AV) → α) (kc : Nat → List AV → List (List AV) → α) : α :=
  bif (decide (i < m)) then (A.chk (decide ((0 : Int) ≤ i)) (nthE A (map fldV l) i.toNat fun v0 => asA A v0 fun l1 => aI A l1 fun n4 l3 => aI A l3 fun n7 l6 => aI A l6 fun n10 l9 => aI A l9 fun n13 l12 => aI A l12 fun n16 l15 => asN A l15 (A.callx 55 [agg [iV n4, iV n7, iV n10, iV n13, iV n16]] fun l17 => aI A l17 fun n20 l19 => asN A l19 (next [iV (IntKind.i64.wrap (n + n20)), lst .ro 5 (map fldV l), iV m, iV (IntKind.i64.wrap (i + (1 : Int)))] [])))) else (kc 1 [iV n] [])
def zct {α : Type} (A : Alg α) (f : Frm) (n : Int) (i : Int) (next : List AV → List (List AV) → α) (kc : Nat → List AV → List (List AV) → α) : α :=
  bif (decide (i < (↑(map fldV f.fields).length : Int))) then (A.chk (decide ((0 : Int) ≤ i)) (nthE A (map fldV f.fields) i.toNat fun v0 => asA A v0 fun l1 => aI A l1 fun n4 l3 => aI A l3 fun n7 l6 => aI A l6 fun n10 l9 => aI A l9 fun n13 l12 => aI A l12 fun n16 l15 => asN A l15 (A.callx 72 [agg [iV n4, iV n7, iV n10, iV n13, iV n16]] fun l17 => aI A l17 fun n20 l19 => asN A l19 (next [iV (IntKind.i64.wrap (n + n20)), iV (IntKind.i64.wrap (i + (1 : Int)))] [[iV f.id, lst .ro 5 (map fldV f.fields)]])))) else (kc 1 [iV n] [])
def zcu {α : Type} (A : Alg α) (l : List Fld) (seen : List Bool) (m : Int) (i : Int) (next : List AV → List (List AV) → α) (kc : Nat → List AV → List (List AV) → α) : α :=
  bif (decide (i < m)) then (A.chk (decide ((0 : Int) ≤ i)) (nthE A (map fldV l) i.toNat fun v0 => asA A v0 fun l1 => aI A l1 fun n4 l3 => aI A l3 fun n7 l6 => aI A l6 fun n10 l9 => aI A l9 fun n13 l12 => aI A l12 fun n16 l15 => asN A l15 (A.join (fun x17 => A.callx 37 [agg [iV n4, iV n7, iV n10, iV n13, iV n16]] fun l18 => aB A l18 fun b21 l20 => asN A l20 (bif (!b21) then (x17 true) else (A.chk (decide ((0 : Int) ≤ n4) && decide (n4 < (↑(256 : Nat) : Int))) (nthE A (map bool seen) ((0 : Nat) + n4.toNat * 1) fun v22 => asB A v22 fun b23 => x17 b23)))) fun b24 => bif b24 then (kc 0 [bool false] []) else (A.chk (decide ((0 : Int) ≤ n4) && decide (n4 < (↑(256 : Nat) : Int))) (A.chk (((0 : Nat) + n4.toNat * 1 + (1 : Nat)).ble (map bool seen).length) (A.chk ((setAt (map bool seen) ((0 : Nat) + n4.toNat * 1) [bool true]).all AV.flat1) (next [lst .ro 5 (map fldV l), iV m, iV (IntKind.i64.wrap (i + (1 : Int)))] [(setAt (map bool seen) ((0 : Nat) + n4.toNat * 1) [bool true])]))))))) else (kc 1 [] [])
def zcv {α : Type} (A : Alg α) (f : Frm) (i : Int) (next : List AV → List (List AV) → α) (kc : Nat → List AV → List (List AV) → α) : α :=
  bif (decide (i < (↑(map fldV f.fields).length : Int))) then (A.chk (decide ((0 : Int) ≤ i)) (nthE A (map fldV f.fields) i.toNat fun v0 => asA A v0 fun l1 => aI A l1 fun n4 l3 => aI A l3 fun n7 l6 => aI A l6 fun n10 l9 => aI A l9 fun n13 l12 => aI A l12 fun n16 l15 => asN A l15 (A.callx 44 [agg [iV n4, iV n7, iV n10, iV n13, iV n16]] fun l17 => aB A l17 fun b20 l19 => asN A l19 (bif (!b20) then (kc 0 [bool false] []) else (A.chk (decide ((0 : Int) ≤ i)) (nthE A (map fldV f.fields) i.toNat fun v21 => asA A v21 fun l22 => aI A l22 fun n25 l24 => aI A l24 fun n28 l27 => aI A l27 fun n31 l30 => aI A l30 fun n34 l33 => aI A l33 fun n37 l36 => asN A l36 (A.callx 45 [agg [iV f.id, lst .ro 5 (map fldV f.fields)], iV n25] fun l38 => aI A l38 fun n41 l40 => asN A l40 (bif (n41 != i) then (kc 0 [bool false] []) else (next [iV (IntKind.i64.wrap (i + (1 : Int)))] [[iV f.id, lst .ro 5 (map fldV f.fields)]]))))))))) else (kc 1 [] [[iV f.id, lst .ro 5 (map fldV f.fields)]])
def zk0 {α : Type} (A : Alg α) (f : Frm) (id : Int) (i : Int) (next : List AV → List (List AV) → α) (kc : Nat → List AV → List (List AV) → α) : α :=
  bif (decide (i < (↑(map fldV f.fields).length : Int))) then (A.chk (decide ((0 : Int) ≤ i)) (nthE A (map fldV f.fields) i.toNat fun v0 => asA A v0 fun l1 => aI A l1 fun n4 l3 => aI A l3 fun n7 l6 => aI A l6 fun n10 l9 => aI A l9 fun n13 l12 => aI A l12 fun n16 l15 => asN A l15 (bif (n4 == id) then (kc 0 [iV i] []) else (next [iV id, iV (IntKind.i64.wrap (i + (1 : Int)))] [[iV f.id, lst .ro 5 (map fldV f.fields)]])))) else (kc 1 [] [])
def z5y {α : Type} (A : Alg α) (l : List Fld) (id : Int) (m : Int) (i : Int) (next : List AV → List (List AV) → α) (kc : Nat → List AV → List (List AV) → α) : α :=
  bif (decide (i < m)) then (A.chk (decide ((0 : Int) ≤ i)) (nthE A (map fldV l) i.toNat fun v0 => asA A v0 fun l1 => aI A l1 fun n4 l3 => aI A l3 fun n7 l6 => aI A l6 fun n10 l9 => aI A l9 fun n13 l12 => aI A l12 fun n16 l15 => asN A l15 (A.callx 113 [agg [iV n4, iV n7, iV n10, iV n13, iV n16], AV.rp [iV id] 0] fun l17 => aB A l17 fun b20 l19 => asN A l19 (bif b20 then (kc 0 [iV i] []) else (next [lst .ro 5 (map fldV l), clo 113 [AV.rp [iV id] 0], iV m, iV (IntKind.i64.wrap (i + (1 : Int)))] []))))) else (kc 1 [] [])
def z9w {α : Type} (A : Alg α) (l : List Frm) (last : Int) (m : Int) (i : Int) (next : List AV → List (List AV) → α) (kc : Nat → List AV → List (List AV) → α) : α :=
  bif (decide (i < m)) then (A.chk (decide ((0 : Int) ≤ i)) (nthE A (map frmV l) i.toNat fun v0 => asA A v0 fun l1 => aI A l1 fun n4 l3 => aL A 5 l3 fun l7 l6 => asN A l6 (A.join (fun x8 => A.callx 23 [agg [iV n4, lst .ro 5 l7]] fun l9 => aB A l9 fun b12 l11 => asN A l11 (bif (!b12) then (x8 true) else (x8 (decide (n4 ≤ last))))) fun b13 => bif b13 then (kc 0 [bool false] []) else (next [iV n4, lst .ro 2 (map frmV l), iV m, iV (IntKind.i64.wrap (i + (1 : Int)))] [])))) else (kc 1 [] [])
def z5i {α : Type} (A : Alg α) (s : Sch) (i : Int) (next : List AV → List (List AV) → α) (kc : Nat → List AV → List (List AV) → α) : α :=
  bif (decide (i < (↑(map frmV s.forms).length : Int))) then (A.chk (decide ((0 : Int) ≤ i)) (nthE A (map frmV s.forms) i.toNat fun v0 => asA A v0 fun l1 => aI A l1 fun n4 l3 => aL A 5 l3 fun l7 l6 => asN A l6 (A.callx 30 [agg [iV n4, lst .ro 5 l7]] fun l8 => aB A l8 fun b11 l10 => asN A l10 (bif (!b11) then (kc 0 [bool false] []) else (bif (decide (i > (0 : Int))) then (A.chk (decide ((0 : Int) ≤ IntKind.i64.wrap (i - (1 : Int)))) (nthE A (map frmV s.forms) ((IntKind.i64.wrap (i - (1 : Int))).toNat) fun v12 => asA A v12 fun l13 => aI A l13 fun n16 l15 => aL A 5 l15 fun l19 l18 => asN A l18 (A.chk (decide ((0 : Int) ≤ i)) (nthE A (map frmV s.forms) i.toNat fun v20 => asA A v20 fun l21 => aI A l21 fun n24 l23 => aL A 5 l23 fun l27 l26 => asN A l26 (bif (decide (n16 ≥ n24)) then (kc 0 [bool false] []) else (next [iV (IntKind.i64.wrap (i + (1 : Int)))] [[iV s.ver, lst .ro 2 (map frmV s.forms)]])))))) else (next [iV (IntKind.i64.wrap (i + (1 : Int)))] [[iV s.ver, lst .ro 2 (map frmV s.forms)]])))))) else (kc 1 [] [])
def zcw {α : Type} (A : Alg α) (l : List Frm) (g : Frm) (id : Int) (m : Int) (i : Int) (next : List AV → List (List AV) → α) (kc : Nat → List AV → List (List AV) → α) : α :=
  bif (decide (i < m)) then (A.chk (decide ((0 : Int) ≤ i)) (nthE A (map frmV l) i.toNat fun v0 => asA A v0 fun l1 => aI A l1 fun n4 l3 => aL A 5 l3 fun l7 l6 => asN A l6 (bif (n4 == id) then (kc 0 [bool true] [[iV n4, lst .ro 5 l7]]) else (next [iV id, lst .ro 2 (map frmV l), iV m, iV (IntKind.i64.wrap (i + (1 : Int)))] [[iV g.id, lst .ro 5 (map fldV g.fields)]])))) else (kc 1 [] [[iV g.id, lst .ro 5 (map fldV g.fields)]])
def zcx {α : Type} (A : Alg α) (s : Sch) (id : Int) (i : Int) (next : List AV → List (List AV) → α) (kc : Nat → List AV → List (List AV) → α) : α :=
  bif (decide (i < (↑(map frmV s.forms).length : Int))) then (A.chk (decide ((0 : Int) ≤ i)) (nthE A (map frmV s.forms) i.toNat fun v0 => asA A v0 fun l1 => aI A l1 fun n4 l3 => aL A 5 l3 fun l7 l6 => asN A l6 (bif (n4 == id) then (kc 0 [iV i] []) else (next [iV id, iV (IntKind.i64.wrap (i + (1 : Int)))] [[iV s.ver, lst .ro 2 (map frmV s.forms)]])))) else (kc 1 [] [])
def z5z {α : Type} (A : Alg α) (a : Frm) (b : Frm) (i : Int) (next : List AV → List (List AV) → α) (kc : Nat → List AV → List (List AV) → α) : α :=
  bif (decide (i < (↑(map fldV a.fields).length : Int))) then (A.chk (decide ((0 : Int) ≤ i)) (nthE A (map fldV a.fields) i.toNat fun v0 => asA A v0 fun l1 => aI A l1 fun n4 l3 => aI A l3 fun n7 l6 => aI A l6 fun n10 l9 => aI A l9 fun n13 l12 => aI A l12 fun n16 l15 => asN A l15 (A.chk (decide ((0 : Int) ≤ i)) (nthE A (map fldV b.fields) i.toNat fun v17 => asA A v17 fun l18 => aI A l18 fun n21 l20 => aI A l20 fun n24 l23 => aI A l23 fun n27 l26 => aI A l26 fun n30 l29 => aI A l29 fun n33 l32 => asN A l32 (bif (!(n4 == n21 && (n7 == n24 && (n10 == n27 && (n13 == n30 && (n16 == n33 && true)))))) then (kc 0 [bool false] []) else (next [iV (IntKind.i64.wrap (i + (1 : Int)))] [[iV a.id, lst .ro 5 (map fldV a.fields)], [iV b.id, lst .ro 5 (map fldV b.fields)]])))))) else (kc 1 [] [])
def zcy {α : Type} (A : Alg α) (a : Sch) (b : Sch) (i : Int) (next : List AV → List (List AV) → α) (kc : Nat → List AV → List (List AV) → α) : α :=
  bif (decide (i < (↑(map frmV a.forms).length : Int))) then (A.chk (decide ((0 : Int) ≤ i)) (nthE A (map frmV a.forms) i.toNat fun v0 => asA A v0 fun l1 => aI A l1 fun n4 l3 => aL A 5 l3 fun l7 l6 => asN A l6 (A.chk (decide ((0 : Int) ≤ i)) (nthE A (map frmV b.forms) i.toNat fun v8 => asA A v8 fun l9 => aI A l9 fun n12 l11 => aL A 5 l11 fun l15 l14 => asN A l14 (A.callx 35 [agg [iV n4, lst .ro 5 l7], agg [iV n12, lst .ro 5 l15]] fun l16 => aB A l16 fun b19 l18 => asN A l18 (bif (!b19) then (kc 0 [bool false] []) else (next [iV (IntKind.i64.wrap (i + (1 : Int)))] [[iV a.ver, lst .ro 2 (map frmV a.forms)], [iV b.ver, lst .ro 2 (map frmV b.forms)]]))))))) else (kc 1 [] [])
def z60 {α : Type} (A : Alg α) (a : List Frm) (b : List Frm) (m : Int) (i : Int) (next : List AV → List (List AV) → α) (kc : Nat → List AV → List (List AV) → α) : α :=
  bif (decide (i < m)) then (A.chk (decide ((0 : Int) ≤ i)) (nthE A (map frmV a) i.toNat fun v0 => asA A v0 fun l1 => aI A l1 fun n4 l3 => aL A 5 l3 fun l7 l6 => asN A l6 (A.chk (decide ((0 : Int) ≤ i)) (nthE A (map frmV b) i.toNat fun v8 => asA A v8 fun l9 => aI A l9 fun n12 l11 => aL A 5 l11 fun l15 l14 => asN A l14 (A.callx 28 [agg [iV n4, lst .ro 5 l7], agg [iV n12, lst .ro 5 l15]] fun l16 => aB A l16 fun b19 l18 => asN A l18 (bif (!b19) then (kc 0 [bool false] []) else (next [lst .ro 2 (map frmV b), clo 28 [], lst .ro 2 (map frmV a), iV m, iV (IntKind.i64.wrap (i + (1 : Int)))] []))))))) else (kc 1 [] [])
def z9x {α : Type} (A : Alg α) (a : List Fld) (b : List Fld) (m : Int) (i : Int) (next : List AV → List (List AV) → α) (kc : Nat → List AV → List (List AV) → α) : α :=
  bif (decide (i < m)) then (A.chk (decide ((0 : Int) ≤ i)) (nthE A (map fldV a) i.toNat fun v0 => asA A v0 fun l1 => aI A l1 fun n4 l3 => aI A l3 fun n7 l6 => aI A l6 fun n10 l9 => aI A l9 fun n13 l12 => aI A l12 fun n16 l15 => asN A l15 (A.chk (decide ((0 : Int) ≤ i)) (nthE A (map fldV b) i.toNat fun v17 => asA A v17 fun l18 => aI A l18 fun n21 l20 => aI A l20 fun n24 l23 => aI A l23 fun n27 l26 => aI A l26 fun n30 l29 => aI A l29 fun n33 l32 => asN A l32 (bif (!(n4 == n21 && (n7 == n24 && (n10 == n27 && (n13 == n30 && (n16 == n33 && true)))))) then (kc 0 [bool false] []) else (next [lst .ro 5 (map fldV a), lst .ro 5 (map fldV b), iV m, iV (IntKind.i64.wrap (i + (1 : Int)))] [])))))) else (kc 1 [] [])
theorem zux (f : Fld) {r : CR} (h : zjv (OA (tbl E0) (ltbl E0 37 0)) f (fun r o => some (r, o)) = some r) : tbl E0 37 [fldV f] [] = some r :=
  tblF Tryz.func37 h
theorem zgv (f : Fld) {r : CR} (h : z9v (OA (tbl E0) (ltbl E0 105 0)) f (fun r o => some (r, o)) = some r) : tbl E0 105 [fldV f] [] = some r :=
  tblF Tryz.func105 h
theorem zuy (n : Int) {r : CR} (h : zcr (OA (tbl E0) (ltbl E0 106 0)) n (fun r o => some (r, o)) = some r) : tbl E0 106 [iV n] [] = some r :=
  tblF Tryz.func106 h
theorem zy2 (f : Fld) {r : CR} (h : znt (OA (tbl E0) (ltbl E0 81 0)) f (fun r o => some (r, o)) = some r) : tbl E0 81 [fldV f] [] = some r :=
  tblF Tryz.func81 h
theorem zy3 (f : Fld) {r : CR} (h : znu (OA (tbl E0) (ltbl E0 55 0)) f (fun r o => some (r, o)) = some r) : tbl E0 55 [fldV f] [] = some r :=
  tblF Tryz.func55 h
theorem z7j (f : Fld) {r : CR} (h : z5o (OA (tbl E0) (ltbl E0 71 0)) f (fun r o => some (r, o)) = some r) : tbl E0 71 [fldV f] [] = some r :=
  tblF Tryz.func71 h
theorem zuz (f : Fld) {r : CR} (h : zjw (OA (tbl E0) (ltbl E0 44 0)) f (fun r o => some (r, o)) = some r) : tbl E0 44 [fldV f] [] = some r :=
  tblF Tryz.func44 h
theorem zy4 (n : Int) {r : CR} (h : zfu (OA (tbl E0) (ltbl E0 103 0)) n (fun r o => some (r, o)) = some r) : tbl E0 103 [iV n] [] = some r :=
  tblF Tryz.func103 h
theorem zy5 (f : Fld) {r : CR} (h : znv (OA (tbl E0) (ltbl E0 72 0)) f (fun r o => some (r, o)) = some r) : tbl E0 72 [fldV f] [] = some r :=
  tblF Tryz.func72 h
theorem zy6 (f : Frm) {r : CR} (h : znw (OA (tbl E0) (ltbl E0 36 0)) f (fun r o => some (r, o)) = some r) : tbl E0 36 [frmV f] [] = some r :=
  tblF Tryz.func36 h
theorem zy7 (f : Frm) {r : CR} (h : znx (OA (tbl E0) (ltbl E0 46 0)) f (fun r o => some (r, o)) = some r) : tbl E0 46 [frmV f] [] = some r :=
  tblF Tryz.func46 h
theorem zy8 (f : Frm) {r : CR} (h : zny (OA (tbl E0) (ltbl E0 23 0)) f (fun r o => some (r, o)) = some r) : tbl E0 23 [frmV f] [] = some r :=
  tblF Tryz.func23 h
theorem zy9 (f : Frm) {r : CR} (h : znz (OA (tbl E0) (ltbl E0 30 0)) f (fun r o => some (r, o)) = some r) : tbl E0 30 [frmV f] [] = some r :=
  tblF Tryz.func30 h
theorem t_sAt (f : Frm) (id : Int) {r : CR} (h : s_sAt (OA (tbl E0) (ltbl E0 94 0)) f id (fun r o => some (r, o)) = some r) : tbl E0 94 [frmV f, iV id] [] = some r :=
  tblF Tryz.func94 h
theorem z10p (f : Fld) (id : Int) {r : CR} (h : zrl (OA (tbl E0) (ltbl E0 113 0)) f id (fun r o => some (r, o)) = some r) : tbl E0 113 [fldV f, .rp [iV id] 0] [] = some r :=
  tblF Tryz.func113 h
theorem zms (l : List Fld) (id : Int) {r : CR} (h : zc1 (OA (tbl E0) (ltbl E0 112 0)) l id (fun r o => some (r, o)) = some r) : tbl E0 112 [fldsV l, .clo 113 [.rp [iV id] 0]] [] = some r :=
  tblF Tryz.func112 h
theorem t_yAt (f : Frm) (id : Int) {r : CR} (h : s_yAt (OA (tbl E0) (ltbl E0 45 0)) f id (fun r o => some (r, o)) = some r) : tbl E0 45 [frmV f, iV id] [] = some r :=
  tblF Tryz.func45 h
theorem zv0 (s : Sch) {r : CR} (h : zjx (OA (tbl E0) (ltbl E0 11 0)) s (fun r o => some (r, o)) = some r) : tbl E0 11 [schV s] [] = some r :=
  tblF Tryz.func11 h
theorem zrm (s : Sch) {r : CR} (h : zgu (OA (tbl E0) (ltbl E0 14 0)) s (fun r o => some (r, o)) = some r) : tbl E0 14 [schV s] [] = some r :=
  tblF Tryz.func14 h
theorem zya (s : Sch) (id : Int) {r : CR} (h : zfv (OA (tbl E0) (ltbl E0 90 0)) s id (fun r o => some (r, o)) = some r) : tbl E0 90 [schV s, iV id] [] = some r :=
  tblF Tryz.func90 h
theorem zyb (s : Sch) (id : Int) {r : CR} (h : zo0 (OA (tbl E0) (ltbl E0 51 0)) s id (fun r o => some (r, o)) = some r) : tbl E0 51 [schV s, iV id] [] = some r :=
  tblF Tryz.func51 h
theorem zmt (a b : Frm) {r : CR} (h : zc2 (OA (tbl E0) (ltbl E0 35 0)) a b (fun r o => some (r, o)) = some r) : tbl E0 35 [frmV a, frmV b] [] = some r :=
  tblF Tryz.func35 h
theorem zyc (a b : Sch) {r : CR} (h : zo1 (OA (tbl E0) (ltbl E0 13 0)) a b (fun r o => some (r, o)) = some r) : tbl E0 13 [schV a, schV b] [] = some r :=
  tblF Tryz.func13 h
theorem zv1 (a b : Frm) {r : CR} (h : zjy (OA (tbl E0) (ltbl E0 28 0)) a b (fun r o => some (r, o)) = some r) : tbl E0 28 [frmV a, frmV b] [] = some r :=
  tblF Tryz.func28 h
theorem zmu (a b : List Frm) {r : CR} (h : zc3 (OA (tbl E0) (ltbl E0 27 0)) a b (fun r o => some (r, o)) = some r) : tbl E0 27 [frmsV a, frmsV b, .clo 28 []] [] = some r :=
  tblF Tryz.func27 h
theorem zv2 (a b : List Fld) {r : CR} (h : zjz (OA (tbl E0) (ltbl E0 29 0)) a b (fun r o => some (r, o)) = some r) : tbl E0 29 [fldsV a, fldsV b] [] = some r :=
  tblF Tryz.func29 h
theorem zyd (a b : Sch) {r : CR} (h : zo2 (OA (tbl E0) (ltbl E0 19 0)) a b (fun r o => some (r, o)) = some r) : tbl E0 19 [schV a, schV b] [] = some r :=
  tblF Tryz.func19 h
theorem z9y (n w : Int) {r : LR} (h : z6p (OA (tbl E0) (ltbl E0 106 0)) n w (fun vs os => ltbl E0 106 0 2 vs os) (fun j vs os => some (j, vs, os)) = some r) : ltbl E0 106 0 2 [iV n, iV w] [] = some r :=
  ltblF Tryz.func106 h
theorem zcz (n w : Int) {r : LR} (h : z89 (OA (tbl E0) (ltbl E0 103 0)) n w (fun vs os => ltbl E0 103 0 2 vs os) (fun j vs os => some (j, vs, os)) = some r) : ltbl E0 103 0 2 [iV n, iV w] [] = some r :=
  ltblF Tryz.func103 h
theorem zk1 (l : List Fld) (n m i : Int) {r : LR} (h : zcs (OA (tbl E0) (ltbl E0 36 0)) l n m i (fun vs os => ltbl E0 36 0 3 vs os) (fun j vs os => some (j, vs, os)) = some r) : ltbl E0 36 0 3 [iV n, fldsV l, iV m, iV i] [] = some r :=
  ltblF Tryz.func36 h
theorem zk2 (f : Frm) (n i : Int) {r : LR} (h : zct (OA (tbl E0) (ltbl E0 46 0)) f n i (fun vs os => ltbl E0 46 0 3 vs os) (fun j vs os => some (j, vs, os)) = some r) : ltbl E0 46 0 3 [iV n, iV i] [[iV f.id, fldsV f.fields]] = some r :=
  ltblF Tryz.func46 h
theorem zk3 (l : List Fld) (seen : List Bool) (m i : Int) {r : LR} (h : zcu (OA (tbl E0) (ltbl E0 23 0)) l seen m i (fun vs os => ltbl E0 23 0 5 vs os) (fun j vs os => some (j, vs, os)) = some r) : ltbl E0 23 0 5 [fldsV l, iV m, iV i] [seen.map AV.bool] = some r :=
  ltblF Tryz.func23 h
theorem zk4 (f : Frm) (i : Int) {r : LR} (h : zcv (OA (tbl E0) (ltbl E0 30 0)) f i (fun vs os => ltbl E0 30 0 4 vs os) (fun j vs os => some (j, vs, os)) = some r) : ltbl E0 30 0 4 [iV i] [[iV f.id, fldsV f.fields]] = some r :=
  ltblF Tryz.func30 h
theorem zrn (f : Frm) (id i : Int) {r : LR} (h : zk0 (OA (tbl E0) (ltbl E0 45 0)) f id i (fun vs os => ltbl E0 45 0 2 vs os) (fun j vs os => some (j, vs, os)) = some r) : ltbl E0 45 0 2 [iV id, iV i] [[iV f.id, fldsV f.fields]] = some r :=
  ltblF Tryz.func45 h
theorem z9z (l : List Fld) (id m i : Int) {r : LR} (h : z5y (OA (tbl E0) (ltbl E0 112 0)) l id m i (fun vs os => ltbl E0 112 0 2 vs os) (fun j vs os => some (j, vs, os)) = some r) : ltbl E0 112 0 2 [fldsV l, .clo 113 [.rp [iV id] 0], iV m, iV i] [] = some r :=
  ltblF Tryz.func112 h
theorem zgw (l : List Frm) (last m i : Int) {r : LR} (h : z9w (OA (tbl E0) (ltbl E0 11 0)) l last m i (fun vs os => ltbl E0 11 0 5 vs os) (fun j vs os => some (j, vs, os)) = some r) : ltbl E0 11 0 5 [iV last, frmsV l, iV m, iV i] [] = some r :=
  ltblF Tryz.func11 h
theorem zed (s : Sch) (i : Int) {r : LR} (h : z5i (OA (tbl E0) (ltbl E0 14 0)) s i (fun vs os => ltbl E0 14 0 4 vs os) (fun j vs os => some (j, vs, os)) = some r) : ltbl E0 14 0 4 [iV i] [[iV s.ver, frmsV s.forms]] = some r :=
  ltblF Tryz.func14 h
theorem zk5 (l : List Frm) (g : Frm) (id m i : Int) {r : LR} (h : zcw (OA (tbl E0) (ltbl E0 90 0)) l g id m i (fun vs os => ltbl E0 90 0 2 vs os) (fun j vs os => some (j, vs, os)) = some r) : ltbl E0 90 0 2 [iV id, frmsV l, iV m, iV i] [[iV g.id, fldsV g.fields]] = some r :=
  ltblF Tryz.func90 h
theorem zk6 (s : Sch) (id i : Int) {r : LR} (h : zcx (OA (tbl E0) (ltbl E0 51 0)) s id i (fun vs os => ltbl E0 51 0 2 vs os) (fun j vs os => some (j, vs, os)) = some r) : ltbl E0 51 0 2 [iV id, iV i] [[iV s.ver, frmsV s.forms]] = some r :=
  ltblF Tryz.func51 h
theorem za0 (a b : Frm) (i : Int) {r : LR} (h : z5z (OA (tbl E0) (ltbl E0 35 0)) a b i (fun vs os => ltbl E0 35 0 4 vs os) (fun j vs os => some (j, vs, os)) = some r) : ltbl E0 35 0 4 [iV i] [[iV a.id, fldsV a.fields], [iV b.id, fldsV b.fields]] = some r :=
  ltblF Tryz.func35 h
theorem zk7 (a b : Sch) (i : Int) {r : LR} (h : zcy (OA (tbl E0) (ltbl E0 19 0)) a b i (fun vs os => ltbl E0 19 0 4 vs os) (fun j vs os => some (j, vs, os)) = some r) : ltbl E0 19 0 4 [iV i] [[iV a.ver, frmsV a.forms], [iV b.ver, frmsV b.forms]] = some r :=
  ltblF Tryz.func19 h
theorem za1 (a b : List Frm) (m i : Int) {r : LR} (h : z60 (OA (tbl E0) (ltbl E0 27 0)) a b m i (fun vs os => ltbl E0 27 0 4 vs os) (fun j vs os => some (j, vs, os)) = some r) : ltbl E0 27 0 4 [frmsV b, .clo 28 [], frmsV a, iV m, iV i] [] = some r :=
  ltblF Tryz.func27 h
theorem zgx (a b : List Fld) (m i : Int) {r : LR} (h : z9x (OA (tbl E0) (ltbl E0 29 0)) a b m i (fun vs os => ltbl E0 29 0 4 vs os) (fun j vs os => some (j, vs, os)) = some r) : ltbl E0 29 0 4 [fldsV a, fldsV b, iV m, iV i] [] = some r :=
  ltblF Tryz.func29 h
end Go.Proofs.YtjkjhgfiaodgmaaGreat.V
namespace Go.Proofs.YtjkjhgfiaodgmaaGreat.V
open Go
structure Stp where
  op : Int
  form : Int
  field : Int
  place : Int
  to : Int
  a : Int
  b : Int
  f : Fld
  n : Int
  s : List UInt8
  t : List Int
  fields : List Fld
  deriving DecidableEq
abbrev intsV (l : List Int) : AV := AV.lst .ro 1 (l.map fun n => AV.int .i64 n)
abbrev stpC (x : Stp) : List AV := [.int .i64 x.op, .int .i64 x.form, .int .i64 x.field, .int .i64 x.place, .int .i64 x.to, .int .i64 x.a, .int .i64 x.b, .int .i64 x.f.id, .int .i64 x.f.kind, .int .i64 x.f.lo, .int .i64 x.f.hi, .int .i64 x.f.most, .int .i64 x.n, .str x.s, intsV x.t, fldsV x.fields]
abbrev stpV (x : Stp) : AV := AV.agg (stpC x)
abbrev stpsV (l : List Stp) : AV := AV.lst .ro 16 (l.map stpV)
end Go.Proofs.YtjkjhgfiaodgmaaGreat.V
namespace Go.Proofs.YtjkjhgfiaodgmaaGreat.V
open Go
open AV (int lst agg str bool ref clo)
open List (map)
def zo3 {α : Type} (A : Alg α) (op : Int) (kc : List AV → List (Nat × List AV) → α) : α :=
  bif (op == (1 : Int)) then (A.loop 1000004 [iV op, bool true] [] fun j0 l1 l2 => bif (j0.beq 50001) then (asN A l1 (asN A l2 (kc [lst .ro 1 []] []))) else (bif (j0.beq 0) then (aL A 1 l1 fun l5 l4 => asN A l4 (asN A l2 (kc [lst .ro 1 l5] []))) else A.fail)) else (A.loop 1000004 [iV op, bool (op == (22 : Int))] [] fun j6 l7 l8 => bif (j6.beq 50001) then (asN A l7 (asN A l8 (kc [lst .ro 1 []] []))) else (bif (j6.beq 0) then (aL A 1 l7 fun l11 l10 => asN A l10 (asN A l8 (kc [lst .ro 1 l11] []))) else A.fail))
def zk8 {α : Type} (A : Alg α) (op : Int) (b : Bool) (next : List AV → List (List AV) → α) (kc : Nat → List AV → List (List AV) → α) : α :=
  bif b then (kc 0 [lst .ro 1 [iV 0, iV 2, iV 6, iV 7]] []) else (bif (op == (2 : Int)) then (kc 0 [lst .ro 1 [iV 0, iV 1, iV 7]] []) else (bif (op == (3 : Int)) then (A.loop 1000009 [iV op, bool true] [] fun j0 l1 l2 => bif (j0.beq 50001) then (asN A l1 (asN A l2 (kc 50001 [] []))) else (bif (j0.beq 0) then (aL A 1 l1 fun l5 l4 => asN A l4 (asN A l2 (kc 0 [lst .ro 1 l5] []))) else A.fail)) else (A.loop 1000009 [iV op, bool (op == (23 : Int))] [] fun j6 l7 l8 => bif (j6.beq 50001) then (asN A l7 (asN A l8 (kc 50001 [] []))) else (bif (j6.beq 0) then (aL A 1 l7 fun l11 l10 => asN A l10 (asN A l8 (kc 0 [lst .ro 1 l11] []))) else A.fail))))
def zk9 {α : Type} (A : Alg α) (op : Int) (b : Bool) (next : List AV → List (List AV) → α) (kc : Nat → List AV → List (List AV) → α) : α :=
  bif b then (kc 0 [lst .ro 1 [iV 0, iV 1, iV 6]] []) else (bif (op == (4 : Int)) then (kc 0 [lst .ro 1 [iV 0, iV 1, iV 5]] []) else (bif (op == (24 : Int)) then (kc 0 [lst .ro 1 [iV 0, iV 1, iV 5, iV 6]] []) else (bif (op == (5 : Int)) then (kc 0 [lst .ro 1 [iV 0, iV 1, iV 4, iV 8]] []) else (bif (op == (25 : Int)) then (kc 0 [lst .ro 1 [iV 0, iV 1, iV 8]] []) else (bif (op == (6 : Int)) then (kc 0 [lst .ro 1 [iV 0, iV 1, iV 4, iV 3]] []) else (bif (op == (26 : Int)) then (kc 0 [lst .ro 1 [iV 0, iV 1, iV 4, iV 3, iV 6]] []) else (bif (op == (7 : Int)) then (kc 0 [lst .ro 1 [iV 0, iV 1, iV 2]] []) else (bif (op == (27 : Int)) then (kc 0 [lst .ro 1 [iV 0, iV 1, iV 2]] []) else (bif (op == (8 : Int)) then (kc 0 [lst .ro 1 [iV 0, iV 1, iV 3]] []) else (bif (op == (28 : Int)) then (kc 0 [lst .ro 1 [iV 0, iV 1, iV 3]] []) else (bif (op == (9 : Int)) then (kc 0 [lst .ro 1 [iV 0, iV 9]] []) else (bif (op == (30 : Int)) then (kc 0 [lst .ro 1 [iV 0, iV 9]] []) else (bif (op == (10 : Int)) then (kc 0 [lst .ro 1 [iV 0]] []) else (bif (op == (29 : Int)) then (kc 0 [lst .ro 1 [iV 0]] []) else (bif (op == (21 : Int)) then (kc 0 [lst .ro 1 [iV 0, iV 1]] []) else (kc 50001 [] []))))))))))))))))
def s_tin {α : Type} (A : Alg α) (n : Int) (lo : Int) (hi : Int) (kc : List AV → List (Nat × List AV) → α) : α :=
  A.join (fun x0 => bif (decide (n ≥ lo)) then (x0 (decide (n ≤ hi))) else (x0 false)) fun b1 => kc [bool b1] []
def zo4 {α : Type} (A : Alg α) (x : Stp) (kc : List AV → List (Nat × List AV) → α) : α :=
  A.callx 83 [iV x.op] fun l0 => aL A 1 l0 fun l3 l2 => asN A l2 (A.loop 3 [lst .ro 1 l3, iV (↑l3.length : Int), iV 0] [[iV x.op, iV x.form, iV x.field, iV x.place, iV x.to, iV x.a, iV x.b, iV x.f.id, iV x.f.kind, iV x.f.lo, iV x.f.hi, iV x.f.most, iV x.n, str x.s, lst .ro 1 (map (fun n => iV n) x.t), lst .ro 5 (map fldV x.fields)], [iV 0, iV 0, iV 0, iV 0, iV 0, iV 0, iV 0, iV 0, iV 0, iV 0, iV 0, iV 0, iV 0, str [], lst .ro 1 [], lst .ro 5 []], [iV x.op, iV 0, iV 0, iV 0, iV 0, iV 0, iV 0, iV 0, iV 0, iV 0, iV 0, iV 0, iV 0, str [], lst .ro 1 [], lst .ro 5 []]] fun j4 l5 l6 => bif (j4.beq 1) then (asN A l5 (asC A l6 fun l7 l8 => aI A l7 fun n11 l10 => aI A l10 fun n14 l13 => aI A l13 fun n17 l16 => aI A l16 fun n20 l19 => aI A l19 fun n23 l22 => aI A l22 fun n26 l25 => aI A l25 fun n29 l28 => aI A l28 fun n32 l31 => aI A l31 fun n35 l34 => aI A l34 fun n38 l37 => aI A l37 fun n41 l40 => aI A l40 fun n44 l43 => aI A l43 fun n47 l46 => aS A l46 fun l50 l49 => aL A 1 l49 fun l53 l52 => aL A 5 l52 fun l56 l55 => asN A l55 (asC A l8 fun l57 l58 => aI A l57 fun n61 l60 => aI A l60 fun n64 l63 => aI A l63 fun n67 l66 => aI A l66 fun n70 l69 => aI A l69 fun n73 l72 => aI A l72 fun n76 l75 => aI A l75 fun n79 l78 => aI A l78 fun n82 l81 => aI A l81 fun n85 l84 => aI A l84 fun n88 l87 => aI A l87 fun n91 l90 => aI A l90 fun n94 l93 => aI A l93 fun n97 l96 => aS A l96 fun l100 l99 => aL A 1 l99 fun l103 l102 => aL A 5 l102 fun l106 l105 => asN A l105 (asN A l58 (kc [agg [iV n61, iV n64, iV n67, iV n70, iV n73, iV n76, iV n79, iV n82, iV n85, iV n88, iV n91, iV n94, iV n97, str l100, lst .ro 1 l103, lst .ro 5 l106]] []))))) else A.fail)
def zka {α : Type} (A : Alg α) (x : Stp) (y : Stp) (z : Stp) (l : List Int) (m : Int) (i : Int) (next : List AV → List (List AV) → α) (kc : Nat → List AV → List (List AV) → α) : α :=
  bif (decide (i < m)) then (A.chk (decide ((0 : Int) ≤ i)) (nthE A (map (fun n => iV n) l) i.toNat fun v0 => asI A .i64 v0 fun n1 => bif (n1 == (0 : Int)) then (next [lst .ro 1 (map (fun n => iV n) l), iV m, iV (IntKind.i64.wrap (i + (1 : Int)))] [[iV x.op, iV x.form, iV x.field, iV x.place, iV x.to, iV x.a, iV x.b, iV x.f.id, iV x.f.kind, iV x.f.lo, iV x.f.hi, iV x.f.most, iV x.n, str x.s, lst .ro 1 (map (fun n => iV n) x.t), lst .ro 5 (map fldV x.fields)], [iV y.op, iV y.form, iV y.field, iV y.place, iV y.to, iV y.a, iV y.b, iV y.f.id, iV y.f.kind, iV y.f.lo, iV y.f.hi, iV y.f.most, iV y.n, str y.s, lst .ro 1 (map (fun n => iV n) y.t), lst .ro 5 (map fldV y.fields)], [iV z.op, iV x.form, iV z.field, iV z.place, iV z.to, iV z.a, iV z.b, iV z.f.id, iV z.f.kind, iV z.f.lo, iV z.f.hi, iV z.f.most, iV z.n, str z.s, lst .ro 1 (map (fun n => iV n) z.t), lst .ro 5 (map fldV z.fields)]]) else (bif (n1 == (1 : Int)) then (next [lst .ro 1 (map (fun n => iV n) l), iV m, iV (IntKind.i64.wrap (i + (1 : Int)))] [[iV x.op, iV x.form, iV x.field, iV x.place, iV x.to, iV x.a, iV x.b, iV x.f.id, iV x.f.kind, iV x.f.lo, iV x.f.hi, iV x.f.most, iV x.n, str x.s, lst .ro 1 (map (fun n => iV n) x.t), lst .ro 5 (map fldV x.fields)], [iV y.op, iV y.form, iV y.field, iV y.place, iV y.to, iV y.a, iV y.b, iV y.f.id, iV y.f.kind, iV y.f.lo, iV y.f.hi, iV y.f.most, iV y.n, str y.s, lst .ro 1 (map (fun n => iV n) y.t), lst .ro 5 (map fldV y.fields)], [iV z.op, iV z.form, iV x.field, iV z.place, iV z.to, iV z.a, iV z.b, iV z.f.id, iV z.f.kind, iV z.f.lo, iV z.f.hi, iV z.f.most, iV z.n, str z.s, lst .ro 1 (map (fun n => iV n) z.t), lst .ro 5 (map fldV z.fields)]]) else (bif (n1 == (2 : Int)) then (next [lst .ro 1 (map (fun n => iV n) l), iV m, iV (IntKind.i64.wrap (i + (1 : Int)))] [[iV x.op, iV x.form, iV x.field, iV x.place, iV x.to, iV x.a, iV x.b, iV x.f.id, iV x.f.kind, iV x.f.lo, iV x.f.hi, iV x.f.most, iV x.n, str x.s, lst .ro 1 (map (fun n => iV n) x.t), lst .ro 5 (map fldV x.fields)], [iV y.op, iV y.form, iV y.field, iV y.place, iV y.to, iV y.a, iV y.b, iV y.f.id, iV y.f.kind, iV y.f.lo, iV y.f.hi, iV y.f.most, iV y.n, str y.s, lst .ro 1 (map (fun n => iV n) y.t), lst .ro 5 (map fldV y.fields)], [iV z.op, iV z.form, iV z.field, iV x.place, iV z.to, iV z.a, iV z.b, iV z.f.id, iV z.f.kind, iV z.f.lo, iV z.f.hi, iV z.f.most, iV z.n, str z.s, lst .ro 1 (map (fun n => iV n) z.t), lst .ro 5 (map fldV z.fields)]]) else (bif (n1 == (3 : Int)) then (next [lst .ro 1 (map (fun n => iV n) l), iV m, iV (IntKind.i64.wrap (i + (1 : Int)))] [[iV x.op, iV x.form, iV x.field, iV x.place, iV x.to, iV x.a, iV x.b, iV x.f.id, iV x.f.kind, iV x.f.lo, iV x.f.hi, iV x.f.most, iV x.n, str x.s, lst .ro 1 (map (fun n => iV n) x.t), lst .ro 5 (map fldV x.fields)], [iV y.op, iV y.form, iV y.field, iV y.place, iV y.to, iV y.a, iV y.b, iV y.f.id, iV y.f.kind, iV y.f.lo, iV y.f.hi, iV y.f.most, iV y.n, str y.s, lst .ro 1 (map (fun n => iV n) y.t), lst .ro 5 (map fldV y.fields)], [iV z.op, iV z.form, iV z.field, iV z.place, iV x.to, iV z.a, iV z.b, iV z.f.id, iV z.f.kind, iV z.f.lo, iV z.f.hi, iV z.f.most, iV z.n, str z.s, lst .ro 1 (map (fun n => iV n) z.t), lst .ro 5 (map fldV z.fields)]]) else (bif (n1 == (5 : Int)) then (next [lst .ro 1 (map (fun n => iV n) l), iV m, iV (IntKind.i64.wrap (i + (1 : Int)))] [[iV x.op, iV x.form, iV x.field, iV x.place, iV x.to, iV x.a, iV x.b, iV x.f.id, iV x.f.kind, iV x.f.lo, iV x.f.hi, iV x.f.most, iV x.n, str x.s, lst .ro 1 (map (fun n => iV n) x.t), lst .ro 5 (map fldV x.fields)], [iV y.op, iV y.form, iV y.field, iV y.place, iV y.to, iV y.a, iV y.b, iV y.f.id, iV y.f.kind, iV y.f.lo, iV y.f.hi, iV y.f.most, iV y.n, str y.s, lst .ro 1 (map (fun n => iV n) y.t), lst .ro 5 (map fldV y.fields)], [iV z.op, iV z.form, iV z.field, iV z.place, iV z.to, iV x.a, iV x.b, iV z.f.id, iV z.f.kind, iV z.f.lo, iV z.f.hi, iV z.f.most, iV z.n, str z.s, lst .ro 1 (map (fun n => iV n) z.t), lst .ro 5 (map fldV z.fields)]]) else (bif (n1 == (4 : Int)) then (next [lst .ro 1 (map (fun n => iV n) l), iV m, iV (IntKind.i64.wrap (i + (1 : Int)))] [[iV x.op, iV x.form, iV x.field, iV x.place, iV x.to, iV x.a, iV x.b, iV x.f.id, iV x.f.kind, iV x.f.lo, iV x.f.hi, iV x.f.most, iV x.n, str x.s, lst .ro 1 (map (fun n => iV n) x.t), lst .ro 5 (map fldV x.fields)], [iV y.op, iV y.form, iV y.field, iV y.place, iV y.to, iV y.a, iV y.b, iV y.f.id, iV y.f.kind, iV y.f.lo, iV y.f.hi, iV y.f.most, iV y.n, str y.s, lst .ro 1 (map (fun n => iV n) y.t), lst .ro 5 (map fldV y.fields)], [iV z.op, iV z.form, iV z.field, iV z.place, iV z.to, iV x.a, iV z.b, iV z.f.id, iV z.f.kind, iV z.f.lo, iV z.f.hi, iV z.f.most, iV z.n, str z.s, lst .ro 1 (map (fun n => iV n) z.t), lst .ro 5 (map fldV z.fields)]]) else (bif (n1 == (6 : Int)) then (next [lst .ro 1 (map (fun n => iV n) l), iV m, iV (IntKind.i64.wrap (i + (1 : Int)))] [[iV x.op, iV x.form, iV x.field, iV x.place, iV x.to, iV x.a, iV x.b, iV x.f.id, iV x.f.kind, iV x.f.lo, iV x.f.hi, iV x.f.most, iV x.n, str x.s, lst .ro 1 (map (fun n => iV n) x.t), lst .ro 5 (map fldV x.fields)], [iV y.op, iV y.form, iV y.field, iV y.place, iV y.to, iV y.a, iV y.b, iV y.f.id, iV y.f.kind, iV y.f.lo, iV y.f.hi, iV y.f.most, iV y.n, str y.s, lst .ro 1 (map (fun n => iV n) y.t), lst .ro 5 (map fldV y.fields)], [iV z.op, iV z.form, iV z.field, iV z.place, iV z.to, iV z.a, iV z.b, iV x.f.id, iV x.f.kind, iV x.f.lo, iV x.f.hi, iV x.f.most, iV z.n, str z.s, lst .ro 1 (map (fun n => iV n) z.t), lst .ro 5 (map fldV z.fields)]]) else (bif (n1 == (7 : Int)) then (next [lst .ro 1 (map (fun n => iV n) l), iV m, iV (IntKind.i64.wrap (i + (1 : Int)))] [[iV x.op, iV x.form, iV x.field, iV x.place, iV x.to, iV x.a, iV x.b, iV x.f.id, iV x.f.kind, iV x.f.lo, iV x.f.hi, iV x.f.most, iV x.n, str x.s, lst .ro 1 (map (fun n => iV n) x.t), lst .ro 5 (map fldV x.fields)], [iV y.op, iV y.form, iV y.field, iV y.place, iV y.to, iV y.a, iV y.b, iV y.f.id, iV y.f.kind, iV y.f.lo, iV y.f.hi, iV y.f.most, iV y.n, str y.s, lst .ro 1 (map (fun n => iV n) y.t), lst .ro 5 (map fldV y.fields)], [iV z.op, iV z.form, iV z.field, iV z.place, iV z.to, iV z.a, iV z.b, iV z.f.id, iV z.f.kind, iV z.f.lo, iV z.f.hi, iV z.f.most, iV x.n, str x.s, lst .ro 1 (map (fun n => iV n) z.t), lst .ro 5 (map fldV z.fields)]]) else (bif (n1 == (8 : Int)) then (next [lst .ro 1 (map (fun n => iV n) l), iV m, iV (IntKind.i64.wrap (i + (1 : Int)))] [[iV x.op, iV x.form, iV x.field, iV x.place, iV x.to, iV x.a, iV x.b, iV x.f.id, iV x.f.kind, iV x.f.lo, iV x.f.hi, iV x.f.most, iV x.n, str x.s, lst .ro 1 (map (fun n => iV n) x.t), lst .ro 5 (map fldV x.fields)], [iV y.op, iV y.form, iV y.field, iV y.place, iV y.to, iV y.a, iV y.b, iV y.f.id, iV y.f.kind, iV y.f.lo, iV y.f.hi, iV y.f.most, iV y.n, str y.s, lst .ro 1 (map (fun n => iV n) y.t), lst .ro 5 (map fldV y.fields)], [iV z.op, iV z.form, iV z.field, iV z.place, iV z.to, iV z.a, iV z.b, iV z.f.id, iV z.f.kind, iV z.f.lo, iV z.f.hi, iV z.f.most, iV z.n, str z.s, lst .ro 1 (map (fun n => iV n) x.t), lst .ro 5 (map fldV z.fields)]]) else (bif (n1 == (9 : Int)) then (next [lst .ro 1 (map (fun n => iV n) l), iV m, iV (IntKind.i64.wrap (i + (1 : Int)))] [[iV x.op, iV x.form, iV x.field, iV x.place, iV x.to, iV x.a, iV x.b, iV x.f.id, iV x.f.kind, iV x.f.lo, iV x.f.hi, iV x.f.most, iV x.n, str x.s, lst .ro 1 (map (fun n => iV n) x.t), lst .ro 5 (map fldV x.fields)], [iV y.op, iV y.form, iV y.field, iV y.place, iV y.to, iV y.a, iV y.b, iV y.f.id, iV y.f.kind, iV y.f.lo, iV y.f.hi, iV y.f.most, iV y.n, str y.s, lst .ro 1 (map (fun n => iV n) y.t), lst .ro 5 (map fldV y.fields)], [iV z.op, iV z.form, iV z.field, iV z.place, iV z.to, iV z.a, iV z.b, iV z.f.id, iV z.f.kind, iV z.f.lo, iV z.f.hi, iV z.f.most, iV z.n, str z.s, lst .ro 1 (map (fun n => iV n) z.t), lst .ro 5 (map fldV x.fields)]]) else (next [lst .ro 1 (map (fun n => iV n) l), iV m, iV (IntKind.i64.wrap (i + (1 : Int)))] [[iV x.op, iV x.form, iV x.field, iV x.place, iV x.to, iV x.a, iV x.b, iV x.f.id, iV x.f.kind, iV x.f.lo, iV x.f.hi, iV x.f.most, iV x.n, str x.s, lst .ro 1 (map (fun n => iV n) x.t), lst .ro 5 (map fldV x.fields)], [iV y.op, iV y.form, iV y.field, iV y.place, iV y.to, iV y.a, iV y.b, iV y.f.id, iV y.f.kind, iV y.f.lo, iV y.f.hi, iV y.f.most, iV y.n, str y.s, lst .ro 1 (map (fun n => iV n) y.t), lst .ro 5 (map fldV y.fields)], [iV z.op, iV z.form, iV z.field, iV z.place, iV z.to, iV z.a, iV z.b, iV z.f.id, iV z.f.kind, iV z.f.lo, iV z.f.hi, iV z.f.most, iV z.n, str z.s, lst .ro 1 (map (fun n => iV n) z.t), lst .ro 5 (map fldV z.fields)]])))))))))))) else (kc 1 [] [[iV y.op, iV y.form, iV y.field, iV y.place, iV y.to, iV y.a, iV y.b, iV y.f.id, iV y.f.kind, iV y.f.lo, iV y.f.hi, iV y.f.most, iV y.n, str y.s, lst .ro 1 (map (fun n => iV n) y.t), lst .ro 5 (map fldV y.fields)], [iV z.op, iV z.form, iV z.field, iV z.place, iV z.to, iV z.a, iV z.b, iV z.f.id, iV z.f.kind, iV z.f.lo, iV z.f.hi, iV z.f.most, iV z.n, str z.s, lst .ro 1 (map (fun n => iV n) z.t), lst .ro 5 (map fldV z.fields)]])
def zkb {α : Type} (A : Alg α) (l : List Int) (below : Int) (kc : List AV → List (Nat × List AV) → α) : α :=
  A.loop 3 [lst .ro 1 (map (fun n => iV n) l), iV below, lst .ro 1 (map (fun n => iV n) l), iV (↑(map (fun n => iV n) l).length : Int), iV 0] [(List.replicate 1000 (bool false))] fun j0 l1 l2 => bif (j0.beq 0) then (aB A l1 fun b5 l4 => asN A l4 (asN A l2 (kc [bool b5] []))) else (bif (j0.beq 1) then (aL A 1 l1 fun l8 l7 => asN A l7 (asN A l2 (A.callx 109 [iV (↑l8.length : Int), iV 1, iV 64] fun l9 => aB A l9 fun b12 l11 => asN A l11 (kc [bool b12] [])))) else A.fail)
def za2 {α : Type} (A : Alg α) (l : List Int) (below : Int) (m : Int) (i : Int) (seen : List Bool) (next : List AV → List (List AV) → α) (kc : Nat → List AV → List (List AV) → α) : α :=
  bif (decide (i < m)) then (A.chk (decide ((0 : Int) ≤ i)) (nthE A (map (fun n => iV n) l) i.toNat fun v0 => asI A .i64 v0 fun n1 => A.join (fun x2 => A.callx 109 [iV n1, iV 0, iV (IntKind.i64.wrap (below - (1 : Int)))] fun l3 => aB A l3 fun b6 l5 => asN A l5 (bif (!b6) then (x2 true) else (A.chk (decide ((0 : Int) ≤ n1) && decide (n1 < (↑(1000 : Nat) : Int))) (nthE A (map bool seen) ((0 : Nat) + n1.toNat * 1) fun v7 => asB A v7 fun b8 => x2 b8)))) fun b9 => bif b9 then (kc 0 [bool false] []) else (A.chk (decide ((0 : Int) ≤ n1) && decide (n1 < (↑(1000 : Nat) : Int))) (A.chk (((0 : Nat) + n1.toNat * 1 + (1 : Nat)).ble (map bool seen).length) (A.chk ((setAt (map bool seen) ((0 : Nat) + n1.toNat * 1) [bool true]).all AV.flat1) (next [lst .ro 1 (map (fun n => iV n) l), iV below, lst .ro 1 (map (fun n => iV n) l), iV m, iV (IntKind.i64.wrap (i + (1 : Int)))] [(setAt (map bool seen) ((0 : Nat) + n1.toNat * 1) [bool true])])))))) else (kc 1 [lst .ro 1 (map (fun n => iV n) l)] [])
def zo5 {α : Type} (A : Alg α) (x : Stp) (p : Int) (kc : List AV → List (Nat × List AV) → α) : α :=
  bif (p == (0 : Int)) then (A.callx 109 [iV x.form, iV 0, iV 200] fun l0 => aB A l0 fun b3 l2 => asN A l2 (kc [bool b3] [])) else (bif (p == (1 : Int)) then (A.callx 109 [iV x.field, iV 0, iV 255] fun l4 => aB A l4 fun b7 l6 => asN A l6 (kc [bool b7] [])) else (bif (p == (2 : Int)) then (A.callx 109 [iV x.place, iV 0, iV 8] fun l8 => aB A l8 fun b11 l10 => asN A l10 (kc [bool b11] [])) else (bif (p == (3 : Int)) then (A.join (fun x12 => A.callx 109 [iV x.to, iV 0, iV 255] fun l13 => aB A l13 fun b16 l15 => asN A l15 (bif b16 then (x12 (x.to != x.field)) else (x12 false))) fun b17 => kc [bool b17] []) else (bif (p == (4 : Int)) then (A.join (fun x18 => bif (x.op == (5 : Int)) then (A.callx 109 [iV x.a, iV 1, iV 1000] fun l19 => aB A l19 fun b22 l21 => asN A l21 (bif b22 then (x18 true) else (bif (x.op != (5 : Int)) then (A.callx 109 [iV x.a, iV 2, iV 1048576] fun l23 => aB A l23 fun b26 l25 => asN A l25 (x18 b26)) else (x18 false)))) else (bif (x.op != (5 : Int)) then (A.callx 109 [iV x.a, iV 2, iV 1048576] fun l27 => aB A l27 fun b30 l29 => asN A l29 (x18 b30)) else (x18 false))) fun b31 => kc [bool b31] []) else (bif (p == (5 : Int)) then (A.join (fun x32 => A.callx 109 [iV x.a, iV (-1048576), iV 1048576] fun l33 => aB A l33 fun b36 l35 => asN A l35 (bif b36 then (bif (x.a != (0 : Int)) then (A.callx 109 [iV x.b, iV (-1099511627776), iV 1099511627776] fun l37 => aB A l37 fun b40 l39 => asN A l39 (x32 b40)) else (x32 false)) else (x32 false))) fun b41 => kc [bool b41] []) else (bif (p == (6 : Int)) then (A.join (fun x42 => bif (x.op == (1 : Int)) then (x42 true) else (bif (x.op == (22 : Int)) then (x42 true) else (x42 (x.f.id == x.field)))) fun b43 => A.join (fun x44 => A.callx 37 [agg [iV x.f.id, iV x.f.kind, iV x.f.lo, iV x.f.hi, iV x.f.most]] fun l45 => aB A l45 fun b48 l47 => asN A l47 (bif b48 then (x44 b43) else (x44 false))) fun b49 => kc [bool b49] []) else (bif (p == (7 : Int)) then (bif (x.op == (2 : Int)) then (A.join (fun x50 => A.callx 109 [iV x.n, iV (-1099511627776), iV 1099511627776] fun l51 => aB A l51 fun b54 l53 => asN A l53 (bif b54 then (x50 (decide ((↑x.s.length : Int) ≤ (32 : Int)))) else (x50 false))) fun b55 => kc [bool b55] []) else (A.callx 110 [agg [iV x.f.id, iV x.f.kind, iV x.f.lo, iV x.f.hi, iV x.f.most], agg [iV x.n, str x.s]] fun l56 => aB A l56 fun b59 l58 => asN A l58 (kc [bool b59] []))) else (bif (p == (8 : Int)) then (bif (x.op == (5 : Int)) then (A.callx 111 [lst .ro 1 (map (fun n => iV n) x.t), iV x.a] fun l60 => aB A l60 fun b63 l62 => asN A l62 (kc [bool b63] [])) else (A.callx 111 [lst .ro 1 (map (fun n => iV n) x.t), iV 1000] fun l64 => aB A l64 fun b67 l66 => asN A l66 (kc [bool b67] []))) else (A.callx 23 [agg [iV x.form, lst .ro 5 (map fldV x.fields)]] fun l68 => aB A l68 fun b71 l70 => asN A l70 (kc [bool b71] []))))))))))
def zkc {α : Type} (A : Alg α) (x : Stp) (kc : List AV → List (Nat × List AV) → α) : α :=
  A.callx 83 [iV x.op] fun l0 => aL A 1 l0 fun l3 l2 => asN A l2 (A.loop 3 [lst .ro 1 l3, lst .ro 1 l3, iV (↑l3.length : Int), iV 0] [[iV x.op, iV x.form, iV x.field, iV x.place, iV x.to, iV x.a, iV x.b, iV x.f.id, iV x.f.kind, iV x.f.lo, iV x.f.hi, iV x.f.most, iV x.n, str x.s, lst .ro 1 (map (fun n => iV n) x.t), lst .ro 5 (map fldV x.fields)]] fun j4 l5 l6 => bif (j4.beq 0) then (aB A l5 fun b9 l8 => asN A l8 (asN A l6 (kc [bool b9] []))) else (bif (j4.beq 1) then (aL A 1 l5 fun l12 l11 => asN A l11 (asC A l6 fun l13 l14 => aI A l13 fun n17 l16 => aI A l16 fun n20 l19 => aI A l19 fun n23 l22 => aI A l22 fun n26 l25 => aI A l25 fun n29 l28 => aI A l28 fun n32 l31 => aI A l31 fun n35 l34 => aI A l34 fun n38 l37 => aI A l37 fun n41 l40 => aI A l40 fun n44 l43 => aI A l43 fun n47 l46 => aI A l46 fun n50 l49 => aI A l49 fun n53 l52 => aS A l52 fun l56 l55 => aL A 1 l55 fun l59 l58 => aL A 5 l58 fun l62 l61 => asN A l61 (asN A l14 (bif (decide ((↑l12.length : Int) > (0 : Int))) then (A.callx 92 [agg [iV n17, iV n20, iV n23, iV n26, iV n29, iV n32, iV n35, iV n38, iV n41, iV n44, iV n47, iV n50, iV n53, str l56, lst .ro 1 l59, lst .ro 5 l62]] fun l63 => aA A l63 fun l66 l65 => aI A l66 fun n69 l68 => aI A l68 fun n72 l71 => aI A l71 fun n75 l74 => aI A l74 fun n78 l77 => aI A l77 fun n81 l80 => aI A l80 fun n84 l83 => aI A l83 fun n87 l86 => aI A l86 fun n90 l89 => aI A l89 fun n93 l92 => aI A l92 fun n96 l95 => aI A l95 fun n99 l98 => aI A l98 fun n102 l101 => aI A l101 fun n105 l104 => aS A l104 fun l108 l107 => aL A 1 l107 fun l111 l110 => aL A 5 l110 fun l114 l113 => asN A l113 (asN A l65 (A.callx 41 [agg [iV n17, iV n20, iV n23, iV n26, iV n29, iV n32, iV n35, iV n38, iV n41, iV n44, iV n47, iV n50, iV n53, str l56, lst .ro 1 l59, lst .ro 5 l62], agg [iV n69, iV n72, iV n75, iV n78, iV n81, iV n84, iV n87, iV n90, iV n93, iV n96, iV n99, iV n102, iV n105, str l108, lst .ro 1 l111, lst .ro 5 l114]] fun l115 => aB A l115 fun b118 l117 => asN A l117 (kc [bool b118] [])))) else (kc [bool false] []))))) else A.fail))
def za3 {α : Type} (A : Alg α) (x : Stp) (l : List Int) (q : List Int) (m : Int) (i : Int) (next : List AV → List (List AV) → α) (kc : Nat → List AV → List (List AV) → α) : α :=
  bif (decide (i < m)) then (A.chk (decide ((0 : Int) ≤ i)) (nthE A (map (fun n => iV n) q) i.toNat fun v0 => asI A .i64 v0 fun n1 => A.callx 91 [agg [iV x.op, iV x.form, iV x.field, iV x.place, iV x.to, iV x.a, iV x.b, iV x.f.id, iV x.f.kind, iV x.f.lo, iV x.f.hi, iV x.f.most, iV x.n, str x.s, lst .ro 1 (map (fun n => iV n) x.t), lst .ro 5 (map fldV x.fields)], iV n1] fun l2 => aB A l2 fun b5 l4 => asN A l4 (bif (!b5) then (kc 0 [bool false] []) else (next [lst .ro 1 (map (fun n => iV n) l), lst .ro 1 (map (fun n => iV n) q), iV m, iV (IntKind.i64.wrap (i + (1 : Int)))] [[iV x.op, iV x.form, iV x.field, iV x.place, iV x.to, iV x.a, iV x.b, iV x.f.id, iV x.f.kind, iV x.f.lo, iV x.f.hi, iV x.f.most, iV x.n, str x.s, lst .ro 1 (map (fun n => iV n) x.t), lst .ro 5 (map fldV x.fields)]])))) else (kc 1 [lst .ro 1 (map (fun n => iV n) l)] [[iV x.op, iV x.form, iV x.field, iV x.place, iV x.to, iV x.a, iV x.b, iV x.f.id, iV x.f.kind, iV x.f.lo, iV x.f.hi, iV x.f.most, iV x.n, str x.s, lst .ro 1 (map (fun n => iV n) x.t), lst .ro 5 (map fldV x.fields)]])
def zo6 {α : Type} (A : Alg α) (x : Stp) (y : Stp) (kc : List AV → List (Nat × List AV) → α) : α :=
  A.join (fun x0 => A.callx 64 [lst .ro 1 (map (fun n => iV n) x.t), lst .ro 1 (map (fun n => iV n) y.t)] fun l1 => aB A l1 fun b4 l3 => asN A l3 (bif b4 then (A.callx 29 [lst .ro 5 (map fldV x.fields), lst .ro 5 (map fldV y.fields)] fun l5 => aB A l5 fun b8 l7 => asN A l7 (x0 b8)) else (x0 false))) fun b9 => A.join (fun x10 => bif b9 then (bif (IntKind.i64.wrap (x.op - y.op) == (0 : Int) && (IntKind.i64.wrap (x.form - y.form) == (0 : Int) && (IntKind.i64.wrap (x.field - y.field) == (0 : Int) && (IntKind.i64.wrap (x.place - y.place) == (0 : Int) && (IntKind.i64.wrap (x.to - y.to) == (0 : Int) && (IntKind.i64.wrap (x.a - y.a) == (0 : Int) && (IntKind.i64.wrap (x.b - y.b) == (0 : Int) && true))))))) then (bif (x.f.id == y.f.id && (x.f.kind == y.f.kind && (x.f.lo == y.f.lo && (x.f.hi == y.f.hi && (x.f.most == y.f.most && true))))) then (x10 (x.n == y.n && (x.s == y.s && true))) else (x10 false)) else (x10 false)) else (x10 false)) fun b11 => kc [bool b11] []
def zkd {α : Type} (A : Alg α) (a : List Int) (b : List Int) (kc : List AV → List (Nat × List AV) → α) : α :=
  bif ((↑(map (fun n => iV n) a).length : Int) != (↑(map (fun n => iV n) b).length : Int)) then (kc [bool false] []) else (A.loop 4 [lst .ro 1 (map (fun n => iV n) a), lst .ro 1 (map (fun n => iV n) b), iV (↑(map (fun n => iV n) a).length : Int), iV 0] [] fun j0 l1 l2 => bif (j0.beq 0) then (aB A l1 fun b5 l4 => asN A l4 (asN A l2 (kc [bool b5] []))) else (bif (j0.beq 1) then (asN A l1 (asN A l2 (kc [bool true] []))) else A.fail))
def za4 {α : Type} (A : Alg α) (a : List Int) (b : List Int) (m : Int) (i : Int) (next : List AV → List (List AV) → α) (kc : Nat → List AV → List (List AV) → α) : α :=
  bif (decide (i < m)) then (A.chk (decide ((0 : Int) ≤ i)) (nthE A (map (fun n => iV n) a) i.toNat fun v0 => asI A .i64 v0 fun n1 => A.chk (decide ((0 : Int) ≤ i)) (nthE A (map (fun n => iV n) b) i.toNat fun v2 => asI A .i64 v2 fun n3 => bif (n1 != n3) then (kc 0 [bool false] []) else (next [lst .ro 1 (map (fun n => iV n) a), lst .ro 1 (map (fun n => iV n) b), iV m, iV (IntKind.i64.wrap (i + (1 : Int)))] [])))) else (kc 1 [] [])
def zro {α : Type} (A : Alg α) (f : Fld) (n : Int) (s : List UInt8) (kc : List AV → List (Nat × List AV) → α) : α :=
  A.callx 105 [agg [iV f.id, iV f.kind, iV f.lo, iV f.hi, iV f.most]] fun l0 => aI A l0 fun n3 l2 => aI A l2 fun n6 l5 => asN A l5 (bif (f.kind == (4 : Int)) then (A.join (fun x7 => A.callx 37 [agg [iV f.id, iV f.kind, iV f.lo, iV f.hi, iV f.most]] fun l8 => aB A l8 fun b11 l10 => asN A l10 (bif b11 then (bif (decide (n ≥ n3)) then (bif (decide (n ≤ n6)) then (x7 (decide ((↑s.length : Int) ≤ f.most))) else (x7 false)) else (x7 false)) else (x7 false))) fun b12 => kc [bool b12] []) else (A.join (fun x13 => A.callx 37 [agg [iV f.id, iV f.kind, iV f.lo, iV f.hi, iV f.most]] fun l14 => aB A l14 fun b17 l16 => asN A l16 (bif b17 then (bif (decide (n ≥ n3)) then (bif (decide (n ≤ n6)) then (x13 (decide ((↑s.length : Int) ≤ (0 : Int)))) else (x13 false)) else (x13 false)) else (x13 false))) fun b18 => kc [bool b18] []))
def zrp {α : Type} (A : Alg α) (f : Fld) (n : Int) (s : List UInt8) (kc : List AV → List (Nat × List AV) → α) : α :=
  A.callx 71 [agg [iV f.id, iV f.kind, iV f.lo, iV f.hi, iV f.most]] fun l0 => aI A l0 fun n3 l2 => aI A l2 fun n6 l5 => aI A l5 fun n9 l8 => aB A l8 fun b12 l11 => asN A l11 (A.join (fun x13 => bif b12 then (bif (decide (n ≥ n3)) then (bif (decide (n ≤ n6)) then (x13 (decide ((↑s.length : Int) ≤ n9))) else (x13 false)) else (x13 false)) else (x13 false)) fun b14 => kc [bool b14] [])
def zo7 {α : Type} (A : Alg α) (op : Int) (kc : List AV → List (Nat × List AV) → α) : α :=
  bif (op == (1 : Int)) then (A.loop 1000004 [iV op, bool true] [] fun j0 l1 l2 => bif (j0.beq 50001) then (asN A l1 (asN A l2 (kc [str []] []))) else (bif (j0.beq 0) then (aS A l1 fun l5 l4 => asN A l4 (asN A l2 (kc [str l5] []))) else A.fail)) else (A.loop 1000004 [iV op, bool (op == (22 : Int))] [] fun j6 l7 l8 => bif (j6.beq 50001) then (asN A l7 (asN A l8 (kc [str []] []))) else (bif (j6.beq 0) then (aS A l7 fun l11 l10 => asN A l10 (asN A l8 (kc [str l11] []))) else A.fail))
def zke {α : Type} (A : Alg α) (op : Int) (b : Bool) (next : List AV → List (List AV) → α) (kc : Nat → List AV → List (List AV) → α) : α :=
  bif b then (kc 0 [str [(102 : UInt8), (112 : UInt8), (70 : UInt8), (86 : UInt8)]] []) else (bif (op == (2 : Int)) then (kc 0 [str [(102 : UInt8), (100 : UInt8), (86 : UInt8)]] []) else (bif (op == (3 : Int)) then (A.loop 1000009 [iV op, bool true] [] fun j0 l1 l2 => bif (j0.beq 50001) then (asN A l1 (asN A l2 (kc 50001 [] []))) else (bif (j0.beq 0) then (aS A l1 fun l5 l4 => asN A l4 (asN A l2 (kc 0 [str l5] []))) else A.fail)) else (A.loop 1000009 [iV op, bool (op == (23 : Int))] [] fun j6 l7 l8 => bif (j6.beq 50001) then (asN A l7 (asN A l8 (kc 50001 [] []))) else (bif (j6.beq 0) then (aS A l7 fun l11 l10 => asN A l10 (asN A l8 (kc 0 [str l11] []))) else A.fail))))
def zkf {α : Type} (A : Alg α) (op : Int) (b : Bool) (next : List AV → List (List AV) → α) (kc : Nat → List AV → List (List AV) → α) : α :=
  bif b then (kc 0 [str [(102 : UInt8), (100 : UInt8), (70 : UInt8)]] []) else (bif (op == (4 : Int)) then (kc 0 [str [(102 : UInt8), (100 : UInt8), (98 : UInt8)]] []) else (bif (op == (24 : Int)) then (kc 0 [str [(102 : UInt8), (100 : UInt8), (98 : UInt8), (70 : UInt8)]] []) else (bif (op == (5 : Int)) then (kc 0 [str [(102 : UInt8), (100 : UInt8), (97 : UInt8), (84 : UInt8)]] []) else (bif (op == (25 : Int)) then (kc 0 [str [(102 : UInt8), (100 : UInt8), (84 : UInt8)]] []) else (bif (op == (6 : Int)) then (kc 0 [str [(102 : UInt8), (100 : UInt8), (97 : UInt8), (116 : UInt8)]] []) else (bif (op == (26 : Int)) then (kc 0 [str [(102 : UInt8), (100 : UInt8), (97 : UInt8), (116 : UInt8), (70 : UInt8)]] []) else (bif (op == (7 : Int)) then (kc 0 [str [(102 : UInt8), (100 : UInt8), (112 : UInt8)]] []) else (bif (op == (27 : Int)) then (kc 0 [str [(102 : UInt8), (100 : UInt8), (112 : UInt8)]] []) else (bif (op == (8 : Int)) then (kc 0 [str [(102 : UInt8), (100 : UInt8), (116 : UInt8)]] []) else (bif (op == (28 : Int)) then (kc 0 [str [(102 : UInt8), (100 : UInt8), (116 : UInt8)]] []) else (bif (op == (9 : Int)) then (kc 0 [str [(102 : UInt8), (76 : UInt8)]] []) else (bif (op == (30 : Int)) then (kc 0 [str [(102 : UInt8), (76 : UInt8)]] []) else (bif (op == (10 : Int)) then (kc 0 [str [(102 : UInt8)]] []) else (bif (op == (29 : Int)) then (kc 0 [str [(102 : UInt8)]] []) else (bif (op == (21 : Int)) then (kc 0 [str [(102 : UInt8), (100 : UInt8)]] []) else (kc 50001 [] []))))))))))))))))
def zrq {α : Type} (A : Alg α) (op : Int) (c : Int) (kc : List AV → List (Nat × List AV) → α) : α :=
  A.callx 73 [iV op] fun l0 => aS A l0 fun l3 l2 => asN A l2 (A.loop 3 [int .u8 c, str l3, iV 0] [] fun j4 l5 l6 => bif (j4.beq 0) then (aB A l5 fun b9 l8 => asN A l8 (asN A l6 (kc [bool b9] []))) else (bif (j4.beq 1) then (asN A l5 (asN A l6 (kc [bool false] []))) else A.fail))
def zo8 {α : Type} (A : Alg α) (c : Int) (i : Int) (s : List UInt8) (next : List AV → List (List AV) → α) (kc : Nat → List AV → List (List AV) → α) : α :=
  bif (decide (i < (↑s.length : Int))) then (A.chk (decide ((0 : Int) ≤ i)) (nthE A s i.toNat fun x0 => bif ((↑x0.toNat : Int) == c) then (kc 0 [bool true] []) else (next [int .u8 c, str s, iV (IntKind.i64.wrap (i + (1 : Int)))] []))) else (kc 1 [] [])
def zo9 {α : Type} (A : Alg α) (x : Stp) (kc : List AV → List (Nat × List AV) → α) : α :=
  A.join (fun x0 => A.callx 77 [iV x.op, int .u8 100] fun l1 => aB A l1 fun b4 l3 => asN A l3 (bif b4 then (A.callx 77 [iV x.op, int .u8 112] fun l5 => aB A l5 fun b8 l7 => asN A l7 (bif b8 then (A.callx 77 [iV x.op, int .u8 116] fun l9 => aB A l9 fun b12 l11 => asN A l11 (bif b12 then (x0 true) else (x0 (x.to == (0 : Int))))) else (bif (x.place == (0 : Int)) then (A.callx 77 [iV x.op, int .u8 116] fun l13 => aB A l13 fun b16 l15 => asN A l15 (bif b16 then (x0 true) else (x0 (x.to == (0 : Int))))) else (x0 false)))) else (bif (x.field == (0 : Int)) then (A.callx 77 [iV x.op, int .u8 112] fun l17 => aB A l17 fun b20 l19 => asN A l19 (bif b20 then (A.callx 77 [iV x.op, int .u8 116] fun l21 => aB A l21 fun b24 l23 => asN A l23 (bif b24 then (x0 true) else (x0 (x.to == (0 : Int))))) else (bif (x.place == (0 : Int)) then (A.callx 77 [iV x.op, int .u8 116] fun l25 => aB A l25 fun b28 l27 => asN A l27 (bif b28 then (x0 true) else (x0 (x.to == (0 : Int))))) else (x0 false)))) else (x0 false)))) fun b29 => A.join (fun x30 => bif b29 then (A.callx 77 [iV x.op, int .u8 97] fun l31 => aB A l31 fun b34 l33 => asN A l33 (bif b34 then (A.callx 77 [iV x.op, int .u8 98] fun l35 => aB A l35 fun b38 l37 => asN A l37 (bif b38 then (x30 true) else (x30 (x.b == (0 : Int))))) else (A.callx 77 [iV x.op, int .u8 98] fun l39 => aB A l39 fun b42 l41 => asN A l41 (bif b42 then (A.callx 77 [iV x.op, int .u8 98] fun l43 => aB A l43 fun b46 l45 => asN A l45 (bif b46 then (x30 true) else (x30 (x.b == (0 : Int))))) else (bif (x.a == (0 : Int)) then (A.callx 77 [iV x.op, int .u8 98] fun l47 => aB A l47 fun b50 l49 => asN A l49 (bif b50 then (x30 true) else (x30 (x.b == (0 : Int))))) else (x30 false)))))) else (x30 false)) fun b51 => A.join (fun x52 => bif b51 then (A.callx 77 [iV x.op, int .u8 70] fun l53 => aB A l53 fun b56 l55 => asN A l55 (bif b56 then (A.callx 77 [iV x.op, int .u8 86] fun l57 => aB A l57 fun b60 l59 => asN A l59 (bif b60 then (x52 true) else (x52 (x.n == (0 : Int) && (x.s == [] && true))))) else (bif (x.f.id == (0 : Int) && (x.f.kind == (0 : Int) && (x.f.lo == (0 : Int) && (x.f.hi == (0 : Int) && (x.f.most == (0 : Int) && true))))) then (A.callx 77 [iV x.op, int .u8 86] fun l61 => aB A l61 fun b64 l63 => asN A l63 (bif b64 then (x52 true) else (x52 (x.n == (0 : Int) && (x.s == [] && true))))) else (x52 false)))) else (x52 false)) fun b65 => A.join (fun x66 => bif b65 then (A.callx 77 [iV x.op, int .u8 84] fun l67 => aB A l67 fun b70 l69 => asN A l69 (bif b70 then (A.callx 77 [iV x.op, int .u8 76] fun l71 => aB A l71 fun b74 l73 => asN A l73 (bif b74 then (x66 true) else (x66 ((↑(map fldV x.fields).length : Int) == (0 : Int))))) else (bif ((↑(map (fun n => iV n) x.t).length : Int) == (0 : Int)) then (A.callx 77 [iV x.op, int .u8 76] fun l75 => aB A l75 fun b78 l77 => asN A l77 (bif b78 then (x66 true) else (x66 ((↑(map fldV x.fields).length : Int) == (0 : Int))))) else (x66 false)))) else (x66 false)) fun b79 => kc [bool b79] []
def zee {α : Type} (A : Alg α) (n : Int) (lo : Int) (hi : Int) (kc : List AV → List (Nat × List AV) → α) : α :=
  A.join (fun x0 => bif (decide (n ≥ lo)) then (x0 (decide (n ≤ hi))) else (x0 false)) fun b1 => kc [bool b1] []
def zkg {α : Type} (A : Alg α) (l : List Int) (below : Int) (kc : List AV → List (Nat × List AV) → α) : α :=
  A.loop 2 [lst .ro 1 (map (fun n => iV n) l), iV below, iV 0] [] fun j0 l1 l2 => bif (j0.beq 0) then (aB A l1 fun b5 l4 => asN A l4 (asN A l2 (kc [bool b5] []))) else (bif (j0.beq 1) then (aL A 1 l1 fun l8 l7 => asN A l7 (asN A l2 (A.join (fun x9 => bif (decide ((↑l8.length : Int) ≥ (1 : Int))) then (x9 (decide ((↑l8.length : Int) ≤ (64 : Int)))) else (x9 false)) fun b10 => kc [bool b10] []))) else A.fail)
def za5 {α : Type} (A : Alg α) (l : List Int) (below : Int) (i : Int) (next : List AV → List (List AV) → α) (kc : Nat → List AV → List (List AV) → α) : α :=
  bif (decide (i < (↑(map (fun n => iV n) l).length : Int))) then (A.chk (decide ((0 : Int) ≤ i)) (nthE A (map (fun n => iV n) l) i.toNat fun v0 => asI A .i64 v0 fun n1 => A.callx 75 [iV n1, iV 0, iV (IntKind.i64.wrap (below - (1 : Int)))] fun l2 => aB A l2 fun b5 l4 => asN A l4 (bif (!b5) then (kc 0 [bool false] []) else (A.loop 7 [lst .ro 1 (map (fun n => iV n) l), iV below, iV i, iV 0] [] fun j6 l7 l8 => bif (j6.beq 0) then (aB A l7 fun b11 l10 => asN A l10 (asN A l8 (kc 0 [bool b11] []))) else (bif (j6.beq 3) then (aL A 1 l7 fun l14 l13 => aI A l13 fun n17 l16 => aI A l16 fun n20 l19 => asN A l19 (asN A l8 (next [lst .ro 1 l14, iV n17, iV (IntKind.i64.wrap (n20 + (1 : Int)))] []))) else A.fail))))) else (kc 1 [lst .ro 1 (map (fun n => iV n) l)] [])
def za6 {α : Type} (A : Alg α) (l : List Int) (below : Int) (i : Int) (k : Int) (next : List AV → List (List AV) → α) (kc : Nat → List AV → List (List AV) → α) : α :=
  bif (decide (k < i)) then (A.chk (decide ((0 : Int) ≤ k)) (nthE A (map (fun n => iV n) l) k.toNat fun v0 => asI A .i64 v0 fun n1 => A.chk (decide ((0 : Int) ≤ i)) (nthE A (map (fun n => iV n) l) i.toNat fun v2 => asI A .i64 v2 fun n3 => bif (n1 == n3) then (kc 0 [bool false] []) else (next [lst .ro 1 (map (fun n => iV n) l), iV below, iV i, iV (IntKind.i64.wrap (k + (1 : Int)))] [])))) else (kc 3 [lst .ro 1 (map (fun n => iV n) l), iV below, iV i] [])
def zef {α : Type} (A : Alg α) (x : Stp) (kc : List AV → List (Nat × List AV) → α) : α :=
  A.join (fun x0 => bif (x.op == (4 : Int)) then (x0 true) else (x0 (x.op == (24 : Int)))) fun b1 => bif b1 then (A.join (fun x2 => A.callx 75 [iV x.a, iV (-1048576), iV 1048576] fun l3 => aB A l3 fun b6 l5 => asN A l5 (bif b6 then (bif (x.a != (0 : Int)) then (A.callx 75 [iV x.b, iV (-1099511627776), iV 1099511627776] fun l7 => aB A l7 fun b10 l9 => asN A l9 (x2 b10)) else (x2 false)) else (x2 false))) fun b11 => kc [bool b11] []) else (A.join (fun x12 => bif (x.op == (6 : Int)) then (x12 true) else (x12 (x.op == (26 : Int)))) fun b13 => bif b13 then (A.callx 75 [iV x.a, iV 2, iV 1048576] fun l14 => aB A l14 fun b17 l16 => asN A l16 (kc [bool b17] [])) else (bif (x.op == (5 : Int)) then (A.join (fun x18 => A.callx 75 [iV x.a, iV 1, iV 1000] fun l19 => aB A l19 fun b22 l21 => asN A l21 (bif b22 then (A.callx 104 [lst .ro 1 (map (fun n => iV n) x.t), iV x.a] fun l23 => aB A l23 fun b26 l25 => asN A l25 (x18 b26)) else (x18 false))) fun b27 => kc [bool b27] []) else (bif (x.op == (25 : Int)) then (A.callx 104 [lst .ro 1 (map (fun n => iV n) x.t), iV 1000] fun l28 => aB A l28 fun b31 l30 => asN A l30 (kc [bool b31] [])) else (kc [bool true] []))))
def zgy {α : Type} (A : Alg α) (x : Stp) (kc : List AV → List (Nat × List AV) → α) : α :=
  A.join (fun x0 => A.callx 73 [iV x.op] fun l1 => aS A l1 fun l4 l3 => asN A l3 (bif (l4 == []) then (x0 true) else (A.callx 74 [agg [iV x.op, iV x.form, iV x.field, iV x.place, iV x.to, iV x.a, iV x.b, iV x.f.id, iV x.f.kind, iV x.f.lo, iV x.f.hi, iV x.f.most, iV x.n, str x.s, lst .ro 1 (map (fun n => iV n) x.t), lst .ro 5 (map fldV x.fields)]] fun l5 => aB A l5 fun b8 l7 => asN A l7 (bif (!b8) then (x0 true) else (A.callx 75 [iV x.form, iV 0, iV 200] fun l9 => aB A l9 fun b12 l11 => asN A l11 (bif (!b12) then (x0 true) else (A.callx 75 [iV x.field, iV 0, iV 255] fun l13 => aB A l13 fun b16 l15 => asN A l15 (bif (!b16) then (x0 true) else (A.callx 75 [iV x.place, iV 0, iV 8] fun l17 => aB A l17 fun b20 l19 => asN A l19 (bif (!b20) then (x0 true) else (A.callx 75 [iV x.to, iV 0, iV 255] fun l21 => aB A l21 fun b24 l23 => asN A l23 (bif (!b24) then (x0 true) else (A.callx 76 [agg [iV x.op, iV x.form, iV x.field, iV x.place, iV x.to, iV x.a, iV x.b, iV x.f.id, iV x.f.kind, iV x.f.lo, iV x.f.hi, iV x.f.most, iV x.n, str x.s, lst .ro 1 (map (fun n => iV n) x.t), lst .ro 5 (map fldV x.fields)]] fun l25 => aB A l25 fun b28 l27 => asN A l27 (x0 (!b28))))))))))))))) fun b29 => bif b29 then (kc [bool false] []) else (A.join (fun x30 => A.callx 77 [iV x.op, int .u8 116] fun l31 => aB A l31 fun b34 l33 => asN A l33 (bif b34 then (bif (x.to == x.field) then (x30 true) else (A.callx 77 [iV x.op, int .u8 70] fun l35 => aB A l35 fun b38 l37 => asN A l37 (bif b38 then (A.callx 44 [agg [iV x.f.id, iV x.f.kind, iV x.f.lo, iV x.f.hi, iV x.f.most]] fun l39 => aB A l39 fun b42 l41 => asN A l41 (x30 (!b42))) else (x30 false)))) else (A.callx 77 [iV x.op, int .u8 70] fun l43 => aB A l43 fun b46 l45 => asN A l45 (bif b46 then (A.callx 44 [agg [iV x.f.id, iV x.f.kind, iV x.f.lo, iV x.f.hi, iV x.f.most]] fun l47 => aB A l47 fun b50 l49 => asN A l49 (x30 (!b50))) else (x30 false))))) fun b51 => bif b51 then (kc [bool false] []) else (A.join (fun x52 => A.callx 77 [iV x.op, int .u8 70] fun l53 => aB A l53 fun b56 l55 => asN A l55 (bif b56 then (A.callx 77 [iV x.op, int .u8 100] fun l57 => aB A l57 fun b60 l59 => asN A l59 (bif b60 then (x52 (x.f.id != x.field)) else (x52 false))) else (x52 false))) fun b61 => bif b61 then (kc [bool false] []) else (A.join (fun x62 => bif (x.op == (2 : Int)) then (A.callx 75 [iV x.n, iV (-1099511627776), iV 1099511627776] fun l63 => aB A l63 fun b66 l65 => asN A l65 (bif (!b66) then (x62 true) else (x62 (decide ((↑x.s.length : Int) > (32 : Int)))))) else (x62 false)) fun b67 => bif b67 then (kc [bool false] []) else (A.join (fun x68 => A.callx 77 [iV x.op, int .u8 112] fun l69 => aB A l69 fun b72 l71 => asN A l71 (bif b72 then (A.callx 77 [iV x.op, int .u8 86] fun l73 => aB A l73 fun b76 l75 => asN A l75 (bif b76 then (A.callx 78 [agg [iV x.f.id, iV x.f.kind, iV x.f.lo, iV x.f.hi, iV x.f.most], agg [iV x.n, str x.s]] fun l77 => aB A l77 fun b80 l79 => asN A l79 (x68 (!b80))) else (x68 false))) else (x68 false))) fun b81 => bif b81 then (kc [bool false] []) else (A.join (fun x82 => A.callx 77 [iV x.op, int .u8 76] fun l83 => aB A l83 fun b86 l85 => asN A l85 (bif (!b86) then (x82 true) else (A.callx 30 [agg [iV x.form, lst .ro 5 (map fldV x.fields)]] fun l87 => aB A l87 fun b90 l89 => asN A l89 (x82 b90)))) fun b91 => kc [bool b91] [])))))
def zkh {α : Type} (A : Alg α) (x : Stp) (y : Stp) (kc : List AV → List (Nat × List AV) → α) : α :=
  A.join (fun x0 => bif (x.op != y.op) then (x0 true) else (bif (x.form != y.form) then (x0 true) else (bif (x.field != y.field) then (x0 true) else (bif (x.place != y.place) then (x0 true) else (bif (x.to != y.to) then (x0 true) else (bif (x.a != y.a) then (x0 true) else (bif (x.b != y.b) then (x0 true) else (bif (!(x.f.id == y.f.id && (x.f.kind == y.f.kind && (x.f.lo == y.f.lo && (x.f.hi == y.f.hi && (x.f.most == y.f.most && true)))))) then (x0 true) else (bif (!(x.n == y.n && (x.s == y.s && true))) then (x0 true) else (bif ((↑(map (fun n => iV n) x.t).length : Int) != (↑(map (fun n => iV n) y.t).length : Int)) then (x0 true) else (x0 ((↑(map fldV x.fields).length : Int) != (↑(map fldV y.fields).length : Int))))))))))))) fun b1 => bif b1 then (kc [bool false] []) else (A.loop 4 [iV 0] [[iV x.op, iV x.form, iV x.field, iV x.place, iV x.to, iV x.a, iV x.b, iV x.f.id, iV x.f.kind, iV x.f.lo, iV x.f.hi, iV x.f.most, iV x.n, str x.s, lst .ro 1 (map (fun n => iV n) x.t), lst .ro 5 (map fldV x.fields)], [iV y.op, iV y.form, iV y.field, iV y.place, iV y.to, iV y.a, iV y.b, iV y.f.id, iV y.f.kind, iV y.f.lo, iV y.f.hi, iV y.f.most, iV y.n, str y.s, lst .ro 1 (map (fun n => iV n) y.t), lst .ro 5 (map fldV y.fields)]] fun j2 l3 l4 => bif (j2.beq 0) then (aB A l3 fun b7 l6 => asN A l6 (asN A l4 (kc [bool b7] []))) else (bif (j2.beq 1) then (asN A l3 (asC A l4 fun l8 l9 => aI A l8 fun n12 l11 => aI A l11 fun n15 l14 => aI A l14 fun n18 l17 => aI A l17 fun n21 l20 => aI A l20 fun n24 l23 => aI A l23 fun n27 l26 => aI A l26 fun n30 l29 => aI A l29 fun n33 l32 => aI A l32 fun n36 l35 => aI A l35 fun n39 l38 => aI A l38 fun n42 l41 => aI A l41 fun n45 l44 => aI A l44 fun n48 l47 => aS A l47 fun l51 l50 => aL A 1 l50 fun l54 l53 => aL A 5 l53 fun l57 l56 => asN A l56 (asC A l9 fun l58 l59 => aI A l58 fun n62 l61 => aI A l61 fun n65 l64 => aI A l64 fun n68 l67 => aI A l67 fun n71 l70 => aI A l70 fun n74 l73 => aI A l73 fun n77 l76 => aI A l76 fun n80 l79 => aI A l79 fun n83 l82 => aI A l82 fun n86 l85 => aI A l85 fun n89 l88 => aI A l88 fun n92 l91 => aI A l91 fun n95 l94 => aI A l94 fun n98 l97 => aS A l97 fun l101 l100 => aL A 1 l100 fun l104 l103 => aL A 5 l103 fun l107 l106 => asN A l106 (asN A l59 (A.loop 9 [iV 0] [[iV n12, iV n15, iV n18, iV n21, iV n24, iV n27, iV n30, iV n33, iV n36, iV n39, iV n42, iV n45, iV n48, str l51, lst .ro 1 l54, lst .ro 5 l57], [iV n62, iV n65, iV n68, iV n71, iV n74, iV n77, iV n80, iV n83, iV n86, iV n89, iV n92, iV n95, iV n98, str l101, lst .ro 1 l104, lst .ro 5 l107]] fun j108 l109 l110 => bif (j108.beq 0) then (aB A l109 fun b113 l112 => asN A l112 (asN A l110 (kc [bool b113] []))) else (bif (j108.beq 3) then (asN A l109 (asN A l110 (kc [bool true] []))) else A.fail)))))) else A.fail))
def za7 {α : Type} (A : Alg α) (x : Stp) (y : Stp) (i : Int) (next : List AV → List (List AV) → α) (kc : Nat → List AV → List (List AV) → α) : α :=
  bif (decide (i < (↑(map (fun n => iV n) x.t).length : Int))) then (A.chk (decide ((0 : Int) ≤ i)) (nthE A (map (fun n => iV n) x.t) i.toNat fun v0 => asI A .i64 v0 fun n1 => A.chk (decide ((0 : Int) ≤ i)) (nthE A (map (fun n => iV n) y.t) i.toNat fun v2 => asI A .i64 v2 fun n3 => bif (n1 != n3) then (kc 0 [bool false] []) else (next [iV (IntKind.i64.wrap (i + (1 : Int)))] [[iV x.op, iV x.form, iV x.field, iV x.place, iV x.to, iV x.a, iV x.b, iV x.f.id, iV x.f.kind, iV x.f.lo, iV x.f.hi, iV x.f.most, iV x.n, str x.s, lst .ro 1 (map (fun n => iV n) x.t), lst .ro 5 (map fldV x.fields)], [iV y.op, iV y.form, iV y.field, iV y.place, iV y.to, iV y.a, iV y.b, iV y.f.id, iV y.f.kind, iV y.f.lo, iV y.f.hi, iV y.f.most, iV y.n, str y.s, lst .ro 1 (map (fun n => iV n) y.t), lst .ro 5 (map fldV y.fields)]])))) else (kc 1 [] [[iV x.op, iV x.form, iV x.field, iV x.place, iV x.to, iV x.a, iV x.b, iV x.f.id, iV x.f.kind, iV x.f.lo, iV x.f.hi, iV x.f.most, iV x.n, str x.s, lst .ro 1 (map (fun n => iV n) x.t), lst .ro 5 (map fldV x.fields)], [iV y.op, iV y.form, iV y.field, iV y.place, iV y.to, iV y.a, iV y.b, iV y.f.id, iV y.f.kind, iV y.f.lo, iV y.f.hi, iV y.f.most, iV y.n, str y.s, lst .ro 1 (map (fun n => iV n) y.t), lst .ro 5 (map fldV y.fields)]])
def za8 {α : Type} (A : Alg α) (x : Stp) (y : Stp) (i : Int) (next : List AV → List (List AV) → α) (kc : Nat → List AV → List (List AV) → α) : α :=
  bif (decide (i < (↑(map fldV x.fields).length : Int))) then (A.chk (decide ((0 : Int) ≤ i)) (nthE A (map fldV x.fields) i.toNat fun v0 => asA A v0 fun l1 => aI A l1 fun n4 l3 => aI A l3 fun n7 l6 => aI A l6 fun n10 l9 => aI A l9 fun n13 l12 => aI A l12 fun n16 l15 => asN A l15 (A.chk (decide ((0 : Int) ≤ i)) (nthE A (map fldV y.fields) i.toNat fun v17 => asA A v17 fun l18 => aI A l18 fun n21 l20 => aI A l20 fun n24 l23 => aI A l23 fun n27 l26 => aI A l26 fun n30 l29 => aI A l29 fun n33 l32 => asN A l32 (bif (!(n4 == n21 && (n7 == n24 && (n10 == n27 && (n13 == n30 && (n16 == n33 && true)))))) then (kc 0 [bool false] []) else (next [iV (IntKind.i64.wrap (i + (1 : Int)))] [[iV x.op, iV x.form, iV x.field, iV x.place, iV x.to, iV x.a, iV x.b, iV x.f.id, iV x.f.kind, iV x.f.lo, iV x.f.hi, iV x.f.most, iV x.n, str x.s, lst .ro 1 (map (fun n => iV n) x.t), lst .ro 5 (map fldV x.fields)], [iV y.op, iV y.form, iV y.field, iV y.place, iV y.to, iV y.a, iV y.b, iV y.f.id, iV y.f.kind, iV y.f.lo, iV y.f.hi, iV y.f.most, iV y.n, str y.s, lst .ro 1 (map (fun n => iV n) y.t), lst .ro 5 (map fldV y.fields)]])))))) else (kc 3 [] [])
def zki {α : Type} (A : Alg α) (l : List Stp) (kc : List AV → List (Nat × List AV) → α) : α :=
  A.loop 2 [lst .ro 16 (map stpV l), iV 0] [] fun j0 l1 l2 => bif (j0.beq 0) then (aB A l1 fun b5 l4 => asN A l4 (asN A l2 (kc [bool b5] []))) else (bif (j0.beq 1) then (aL A 16 l1 fun l8 l7 => asN A l7 (asN A l2 (kc [bool (decide ((↑l8.length : Int) > (60 : Int)))] []))) else A.fail)
def z6q {α : Type} (A : Alg α) (l : List Stp) (i : Int) (next : List AV → List (List AV) → α) (kc : Nat → List AV → List (List AV) → α) : α :=
  A.join (fun x0 => bif (decide (i < (↑(map stpV l).length : Int))) then (x0 (decide (i < (61 : Int)))) else (x0 false)) fun b1 => bif b1 then (A.join (fun x2 => A.chk (decide ((0 : Int) ≤ i)) (nthE A (map stpV l) i.toNat fun v3 => asA A v3 fun l4 => aI A l4 fun n7 l6 => aI A l6 fun n10 l9 => aI A l9 fun n13 l12 => aI A l12 fun n16 l15 => aI A l15 fun n19 l18 => aI A l18 fun n22 l21 => aI A l21 fun n25 l24 => aI A l24 fun n28 l27 => aI A l27 fun n31 l30 => aI A l30 fun n34 l33 => aI A l33 fun n37 l36 => aI A l36 fun n40 l39 => aI A l39 fun n43 l42 => aS A l42 fun l46 l45 => aL A 1 l45 fun l49 l48 => aL A 5 l48 fun l52 l51 => asN A l51 (bif (decide ((↑l49.length : Int) > (100 : Int))) then (x2 true) else (A.chk (decide ((0 : Int) ≤ i)) (nthE A (map stpV l) i.toNat fun v53 => asA A v53 fun l54 => aI A l54 fun n57 l56 => aI A l56 fun n60 l59 => aI A l59 fun n63 l62 => aI A l62 fun n66 l65 => aI A l65 fun n69 l68 => aI A l68 fun n72 l71 => aI A l71 fun n75 l74 => aI A l74 fun n78 l77 => aI A l77 fun n81 l80 => aI A l80 fun n84 l83 => aI A l83 fun n87 l86 => aI A l86 fun n90 l89 => aI A l89 fun n93 l92 => aS A l92 fun l96 l95 => aL A 1 l95 fun l99 l98 => aL A 5 l98 fun l102 l101 => asN A l101 (x2 (decide ((↑l102.length : Int) > (40 : Int))))))))) fun b103 => bif b103 then (kc 0 [bool true] []) else (next [lst .ro 16 (map stpV l), iV (IntKind.i64.wrap (i + (1 : Int)))] [])) else (kc 1 [lst .ro 16 (map stpV l)] [])
theorem zye (op : Int) {r : CR} (h : zo3 (OA (tbl E0) (ltbl E0 83 0)) op (fun r o => some (r, o)) = some r) : tbl E0 83 [iV op] [] = some r :=
  tblF Tryz.func83 h
theorem zv3 (op : Int) (b : Bool) {r : LR} (h : zk8 (OA (tbl E0) (ltbl E0 83 0)) op b (fun vs os => ltbl E0 83 0 1000004 vs os) (fun j vs os => some (j, vs, os)) = some r) : ltbl E0 83 0 1000004 [iV op, .bool b] [] = some r :=
  ltblF Tryz.func83 h
theorem zv4 (op : Int) (b : Bool) {r : LR} (h : zk9 (OA (tbl E0) (ltbl E0 83 0)) op b (fun vs os => ltbl E0 83 0 1000009 vs os) (fun j vs os => some (j, vs, os)) = some r) : ltbl E0 83 0 1000009 [iV op, .bool b] [] = some r :=
  ltblF Tryz.func83 h
theorem t_tin (n lo hi : Int) {r : CR} (h : s_tin (OA (tbl E0) (ltbl E0 109 0)) n lo hi (fun r o => some (r, o)) = some r) : tbl E0 109 [iV n, iV lo, iV hi] [] = some r :=
  tblF Tryz.func109 h
theorem zyf (x : Stp) {r : CR} (h : zo4 (OA (tbl E0) (ltbl E0 92 0)) x (fun r o => some (r, o)) = some r) : tbl E0 92 [stpV x] [] = some r :=
  tblF Tryz.func92 h
theorem zv5 (x y z : Stp) (l : List Int) (m i : Int) {r : LR} (h : zka (OA (tbl E0) (ltbl E0 92 0)) x y z l m i (fun vs os => ltbl E0 92 0 3 vs os) (fun j vs os => some (j, vs, os)) = some r) : ltbl E0 92 0 3 [intsV l, iV m, iV i] [stpC x, stpC y, stpC z] = some r :=
  ltblF Tryz.func92 h
theorem zv6 (l : List Int) (below : Int) {r : CR} (h : zkb (OA (tbl E0) (ltbl E0 111 0)) l below (fun r o => some (r, o)) = some r) : tbl E0 111 [intsV l, iV below] [] = some r :=
  tblF Tryz.func111 h
theorem zgz (l : List Int) (below m i : Int) (seen : List Bool) {r : LR} (h : za2 (OA (tbl E0) (ltbl E0 111 0)) l below m i seen (fun vs os => ltbl E0 111 0 3 vs os) (fun j vs os => some (j, vs, os)) = some r) : ltbl E0 111 0 3 [intsV l, iV below, intsV l, iV m, iV i] [seen.map AV.bool] = some r :=
  ltblF Tryz.func111 h
theorem zyg (x : Stp) (p : Int) {r : CR} (h : zo5 (OA (tbl E0) (ltbl E0 91 0)) x p (fun r o => some (r, o)) = some r) : tbl E0 91 [stpV x, iV p] [] = some r :=
  tblF Tryz.func91 h
theorem zv7 (x : Stp) {r : CR} (h : zkc (OA (tbl E0) (ltbl E0 66 0)) x (fun r o => some (r, o)) = some r) : tbl E0 66 [stpV x] [] = some r :=
  tblF Tryz.func66 h
theorem zh0 (x : Stp) (l q : List Int) (m i : Int) {r : LR} (h : za3 (OA (tbl E0) (ltbl E0 66 0)) x l q m i (fun vs os => ltbl E0 66 0 3 vs os) (fun j vs os => some (j, vs, os)) = some r) : ltbl E0 66 0 3 [intsV l, intsV q, iV m, iV i] [stpC x] = some r :=
  ltblF Tryz.func66 h
theorem zyh (x y : Stp) {r : CR} (h : zo6 (OA (tbl E0) (ltbl E0 41 0)) x y (fun r o => some (r, o)) = some r) : tbl E0 41 [stpV x, stpV y] [] = some r :=
  tblF Tryz.func41 h
theorem zv8 (a b : List Int) {r : CR} (h : zkd (OA (tbl E0) (ltbl E0 64 0)) a b (fun r o => some (r, o)) = some r) : tbl E0 64 [intsV a, intsV b] [] = some r :=
  tblF Tryz.func64 h
theorem zh1 (a b : List Int) (m i : Int) {r : LR} (h : za4 (OA (tbl E0) (ltbl E0 64 0)) a b m i (fun vs os => ltbl E0 64 0 4 vs os) (fun j vs os => some (j, vs, os)) = some r) : ltbl E0 64 0 4 [intsV a, intsV b, iV m, iV i] [] = some r :=
  ltblF Tryz.func64 h
theorem z10q (f : Fld) (n : Int) (s : List UInt8) {r : CR} (h : zro (OA (tbl E0) (ltbl E0 110 0)) f n s (fun r o => some (r, o)) = some r) : tbl E0 110 [fldV f, .agg [iV n, .str s]] [] = some r :=
  tblF Tryz.func110 h
theorem z10r (f : Fld) (n : Int) (s : List UInt8) {r : CR} (h : zrp (OA (tbl E0) (ltbl E0 78 0)) f n s (fun r o => some (r, o)) = some r) : tbl E0 78 [fldV f, .agg [iV n, .str s]] [] = some r :=
  tblF Tryz.func78 h
theorem zyi (op : Int) {r : CR} (h : zo7 (OA (tbl E0) (ltbl E0 73 0)) op (fun r o => some (r, o)) = some r) : tbl E0 73 [iV op] [] = some r :=
  tblF Tryz.func73 h
theorem zv9 (op : Int) (b : Bool) {r : LR} (h : zke (OA (tbl E0) (ltbl E0 73 0)) op b (fun vs os => ltbl E0 73 0 1000004 vs os) (fun j vs os => some (j, vs, os)) = some r) : ltbl E0 73 0 1000004 [iV op, .bool b] [] = some r :=
  ltblF Tryz.func73 h
theorem zva (op : Int) (b : Bool) {r : LR} (h : zkf (OA (tbl E0) (ltbl E0 73 0)) op b (fun vs os => ltbl E0 73 0 1000009 vs os) (fun j vs os => some (j, vs, os)) = some r) : ltbl E0 73 0 1000009 [iV op, .bool b] [] = some r :=
  ltblF Tryz.func73 h
theorem z10s (op c : Int) {r : CR} (h : zrq (OA (tbl E0) (ltbl E0 77 0)) op c (fun r o => some (r, o)) = some r) : tbl E0 77 [iV op, .int .u8 c] [] = some r :=
  tblF Tryz.func77 h
theorem zyj (c i : Int) (s : List UInt8) {r : LR} (h : zo8 (OA (tbl E0) (ltbl E0 77 0)) c i s (fun vs os => ltbl E0 77 0 3 vs os) (fun j vs os => some (j, vs, os)) = some r) : ltbl E0 77 0 3 [.int .u8 c, .str s, iV i] [] = some r :=
  ltblF Tryz.func77 h
theorem zyk (x : Stp) {r : CR} (h : zo9 (OA (tbl E0) (ltbl E0 74 0)) x (fun r o => some (r, o)) = some r) : tbl E0 74 [stpV x] [] = some r :=
  tblF Tryz.func74 h
theorem zq2 (n lo hi : Int) {r : CR} (h : zee (OA (tbl E0) (ltbl E0 75 0)) n lo hi (fun r o => some (r, o)) = some r) : tbl E0 75 [iV n, iV lo, iV hi] [] = some r :=
  tblF Tryz.func75 h
theorem zvb (l : List Int) (below : Int) {r : CR} (h : zkg (OA (tbl E0) (ltbl E0 104 0)) l below (fun r o => some (r, o)) = some r) : tbl E0 104 [intsV l, iV below] [] = some r :=
  tblF Tryz.func104 h
theorem zh2 (l : List Int) (below i : Int) {r : LR} (h : za5 (OA (tbl E0) (ltbl E0 104 0)) l below i (fun vs os => ltbl E0 104 0 2 vs os) (fun j vs os => some (j, vs, os)) = some r) : ltbl E0 104 0 2 [intsV l, iV below, iV i] [] = some r :=
  ltblF Tryz.func104 h
theorem zh3 (l : List Int) (below i k : Int) {r : LR} (h : za6 (OA (tbl E0) (ltbl E0 104 0)) l below i k (fun vs os => ltbl E0 104 0 7 vs os) (fun j vs os => some (j, vs, os)) = some r) : ltbl E0 104 0 7 [intsV l, iV below, iV i, iV k] [] = some r :=
  ltblF Tryz.func104 h
theorem zq3 (x : Stp) {r : CR} (h : zef (OA (tbl E0) (ltbl E0 76 0)) x (fun r o => some (r, o)) = some r) : tbl E0 76 [stpV x] [] = some r :=
  tblF Tryz.func76 h
theorem zrr (x : Stp) {r : CR} (h : zgy (OA (tbl E0) (ltbl E0 47 0)) x (fun r o => some (r, o)) = some r) : tbl E0 47 [stpV x] [] = some r :=
  tblF Tryz.func47 h
theorem zvc (x y : Stp) {r : CR} (h : zkh (OA (tbl E0) (ltbl E0 20 0)) x y (fun r o => some (r, o)) = some r) : tbl E0 20 [stpV x, stpV y] [] = some r :=
  tblF Tryz.func20 h
theorem zh4 (x y : Stp) (i : Int) {r : LR} (h : za7 (OA (tbl E0) (ltbl E0 20 0)) x y i (fun vs os => ltbl E0 20 0 4 vs os) (fun j vs os => some (j, vs, os)) = some r) : ltbl E0 20 0 4 [iV i] [stpC x, stpC y] = some r :=
  ltblF Tryz.func20 h
theorem zh5 (x y : Stp) (i : Int) {r : LR} (h : za8 (OA (tbl E0) (ltbl E0 20 0)) x y i (fun vs os => ltbl E0 20 0 9 vs os) (fun j vs os => some (j, vs, os)) = some r) : ltbl E0 20 0 9 [iV i] [stpC x, stpC y] = some r :=
  ltblF Tryz.func20 h
theorem zvd (l : List Stp) {r : CR} (h : zki (OA (tbl E0) (ltbl E0 21 0)) l (fun r o => some (r, o)) = some r) : tbl E0 21 [stpsV l] [] = some r :=
  tblF Tryz.func21 h
theorem za9 (l : List Stp) (i : Int) {r : LR} (h : z6q (OA (tbl E0) (ltbl E0 21 0)) l i (fun vs os => ltbl E0 21 0 2 vs os) (fun j vs os => some (j, vs, os)) = some r) : ltbl E0 21 0 2 [stpsV l, iV i] [] = some r :=
  ltblF Tryz.func21 h
end Go.Proofs.YtjkjhgfiaodgmaaGreat.V
namespace Go.Proofs.YtjkjhgfiaodgmaaGreat.V
open Go
open AV (int lst agg str bool ref clo)
open List (map)
-- folds: dbl
-- folds: cse
noncomputable def zd0 {α : Type} (A : Alg α) (l : List Int) (kc : List AV → List (Nat × List AV) → α) : α :=
  nilEq A Md.ro (map (fun n => iV n) l) fun b0 => bif b0 then (kc [lst .ro 1 []] []) else (A.chk (decide (((0 : Nat) + (map (fun n => iV n) l).length) * 8 ≤ 211106232532992)) (kc [lst .ro 1 (map (fun n => iV n) l)] []))
noncomputable def zfw {α : Type} (A : Alg α) (s : Sch) (x : Stp) (kc : List AV → List (Nat × List AV) → α) : α :=
  A.callx 90 [agg [iV s.ver, lst .ro 2 (map frmV s.forms)], iV x.form] fun l0 => aA A l0 fun l3 l2 => aI A l3 fun n6 l5 => aL A 5 l5 fun l9 l8 => asN A l8 (aB A l2 fun b12 l11 => asN A l11 (A.callx 94 [agg [iV n6, lst .ro 5 l9], iV x.field] fun l13 => aI A l13 fun n16 l15 => asN A l15 (bif (decide (n16 ≥ (0 : Int))) then (A.chk (decide ((0 : Int) ≤ n16)) (nthE A l9 n16.toNat fun v17 => asA A v17 fun l18 => aI A l18 fun n21 l20 => aI A l20 fun n24 l23 => aI A l23 fun n27 l26 => aI A l26 fun n30 l29 => aI A l29 fun n33 l32 => asN A l32 (kc [agg [iV n21, iV n24, iV n27, iV n30, iV n33], iV n16] []))) else (kc [agg [iV 0, iV 0, iV 0, iV 0, iV 0], iV 0] []))))
noncomputable def zaa {α : Type} (A : Alg α) (s : Sch) (x : Stp) (kc : List AV → List (Nat × List AV) → α) : α :=
  A.callx 43 [agg [iV s.ver, lst .ro 2 (map frmV s.forms)], agg [iV x.op, iV x.form, iV x.field, iV x.place, iV x.to, iV x.a, iV x.b, iV x.f.id, iV x.f.kind, iV x.f.lo, iV x.f.hi, iV x.f.most, iV x.n, str x.s, lst .ro 1 (map (fun n => iV n) x.t), lst .ro 5 (map fldV x.fields)]] fun l0 => aA A l0 fun l3 l2 => aI A l3 fun n6 l5 => aL A 2 l5 fun l9 l8 => asN A l8 (aI A l2 fun n12 l11 => asN A l11 (bif (n12 != (0 : Int)) then (kc [agg [iV 0, iV 0, iV 0, iV 0, iV 0, iV 0, iV 0, iV 0, iV 0, iV 0, iV 0, iV 0, iV 0, str [], lst .ro 1 [], lst .ro 5 []], iV n12] []) else (A.callx 88 [agg [iV s.ver, lst .ro 2 (map frmV s.forms)], agg [iV x.op, iV x.form, iV x.field, iV x.place, iV x.to, iV x.a, iV x.b, iV x.f.id, iV x.f.kind, iV x.f.lo, iV x.f.hi, iV x.f.most, iV x.n, str x.s, lst .ro 1 (map (fun n => iV n) x.t), lst .ro 5 (map fldV x.fields)]] fun l13 => aA A l13 fun l16 l15 => aI A l16 fun n19 l18 => aI A l18 fun n22 l21 => aI A l21 fun n25 l24 => aI A l24 fun n28 l27 => aI A l27 fun n31 l30 => asN A l30 (aI A l15 fun n34 l33 => asN A l33 (bif (x.op == (1 : Int)) then (kc [agg [iV (IntKind.i64.wrap (x.op + (20 : Int))), iV x.form, iV x.f.id, iV 0, iV 0, iV 0, iV 0, iV 0, iV 0, iV 0, iV 0, iV 0, iV 0, str [], lst .ro 1 [], lst .ro 5 []], iV 0] []) else (bif (x.op == (2 : Int)) then (kc [agg [iV (IntKind.i64.wrap (x.op + (20 : Int))), iV x.form, iV 0, iV n34, iV 0, iV 0, iV 0, iV n19, iV n22, iV n25, iV n28, iV n31, iV x.n, str x.s, lst .ro 1 [], lst .ro 5 []], iV 0] []) else (bif (x.op == (4 : Int)) then (kc [agg [iV (IntKind.i64.wrap (x.op + (20 : Int))), iV x.form, iV x.field, iV 0, iV 0, iV x.a, iV x.b, iV n19, iV n22, iV n25, iV n28, iV n31, iV 0, str [], lst .ro 1 [], lst .ro 5 []], iV 0] []) else (bif (x.op == (6 : Int)) then (kc [agg [iV (IntKind.i64.wrap (x.op + (20 : Int))), iV x.form, iV x.field, iV 0, iV x.to, iV x.a, iV 0, iV n19, iV n22, iV n25, iV n28, iV n31, iV 0, str [], lst .ro 1 [], lst .ro 5 []], iV 0] []) else (bif (x.op == (3 : Int)) then (kc [agg [iV (IntKind.i64.wrap (x.op + (20 : Int))), iV x.form, iV x.field, iV 0, iV 0, iV 0, iV 0, iV n19, iV n22, iV n25, iV n28, iV n31, iV 0, str [], lst .ro 1 [], lst .ro 5 []], iV 0] []) else (bif (x.op == (5 : Int)) then (A.callx 89 [lst .ro 1 (map (fun n => iV n) x.t)] fun l35 => aL A 1 l35 fun l38 l37 => asN A l37 (kc [agg [iV (IntKind.i64.wrap (x.op + (20 : Int))), iV x.form, iV x.field, iV 0, iV 0, iV 0, iV 0, iV 0, iV 0, iV 0, iV 0, iV 0, iV 0, str [], lst .ro 1 l38, lst .ro 5 []], iV 0] [])) else (bif (x.op == (7 : Int)) then (kc [agg [iV (IntKind.i64.wrap (x.op + (20 : Int))), iV x.form, iV x.field, iV n34, iV 0, iV 0, iV 0, iV 0, iV 0, iV 0, iV 0, iV 0, iV 0, str [], lst .ro 1 [], lst .ro 5 []], iV 0] []) else (bif (x.op == (8 : Int)) then (kc [agg [iV (IntKind.i64.wrap (x.op + (20 : Int))), iV x.form, iV x.to, iV 0, iV x.field, iV 0, iV 0, iV 0, iV 0, iV 0, iV 0, iV 0, iV 0, str [], lst .ro 1 [], lst .ro 5 []], iV 0] []) else (bif (x.op == (10 : Int)) then (A.callx 90 [agg [iV s.ver, lst .ro 2 (map frmV s.forms)], iV x.form] fun l39 => aA A l39 fun l42 l41 => aI A l42 fun n45 l44 => aL A 5 l44 fun l48 l47 => asN A l47 (aB A l41 fun b51 l50 => asN A l50 (A.call 65 [lst .ro 5 l48] [] fun l52 l53 => aU A 5 l52 fun l56 l55 => asN A l55 (asN A l53 (bif (l56.all AV.flat) then (kc [agg [iV (IntKind.i64.wrap (x.op + (20 : Int))), iV x.form, iV x.field, iV 0, iV 0, iV 0, iV 0, iV 0, iV 0, iV 0, iV 0, iV 0, iV 0, str [], lst .ro 1 [], lst .ro 5 l56], iV 0] []) else A.fail))))) else (kc [agg [iV (IntKind.i64.wrap (x.op + (20 : Int))), iV x.form, iV x.field, iV 0, iV 0, iV 0, iV 0, iV 0, iV 0, iV 0, iV 0, iV 0, iV 0, str [], lst .ro 1 [], lst .ro 5 []], iV 0] []))))))))))))))
noncomputable def zab {α : Type} (A : Alg α) (s : Sch) (x : Stp) (kc : List AV → List (Nat × List AV) → α) : α :=
  A.callx 34 [agg [iV s.ver, lst .ro 2 (map frmV s.forms)], agg [iV x.op, iV x.form, iV x.field, iV x.place, iV x.to, iV x.a, iV x.b, iV x.f.id, iV x.f.kind, iV x.f.lo, iV x.f.hi, iV x.f.most, iV x.n, str x.s, lst .ro 1 (map (fun n => iV n) x.t), lst .ro 5 (map fldV x.fields)]] fun l0 => aA A l0 fun l3 l2 => aI A l3 fun n6 l5 => aL A 2 l5 fun l9 l8 => asN A l8 (aI A l2 fun n12 l11 => asN A l11 (bif (n12 != (0 : Int)) then (kc [agg [iV 0, iV 0, iV 0, iV 0, iV 0, iV 0, iV 0, iV 0, iV 0, iV 0, iV 0, iV 0, iV 0, str [], lst .ro 1 [], lst .ro 5 []], iV n12] []) else (bif (x.op == (9 : Int)) then (kc [agg [iV 29, iV x.form, iV 0, iV 0, iV 0, iV 0, iV 0, iV 0, iV 0, iV 0, iV 0, iV 0, iV 0, str [], lst .ro 1 [], lst .ro 5 []], iV 0] []) else (dbl A (A.callx 51 [agg [iV s.ver, lst .ro 2 (map frmV s.forms)], iV x.form] fun l13 => aI A l13 fun n16 l15 => asN A l15 (A.chk (decide ((0 : Int) ≤ n16)) (nthE A (map frmV s.forms) n16.toNat fun v17 => asA A v17 fun l18 => aI A l18 fun n21 l20 => aL A 5 l20 fun l24 l23 => asN A l23 (bif (x.op == (10 : Int)) then (A.chk (decide (((0 : Nat) + l24.length) * 40 ≤ 211106232532992)) (kc [agg [iV 30, iV x.form, iV 0, iV 0, iV 0, iV 0, iV 0, iV 0, iV 0, iV 0, iV 0, iV 0, iV 0, str [], lst .ro 1 [], lst .ro 5 l24], iV 0] [])) else (bif (x.op == (1 : Int)) then (kc [agg [iV 21, iV x.form, iV x.f.id, iV 0, iV 0, iV 0, iV 0, iV 0, iV 0, iV 0, iV 0, iV 0, iV 0, str [], lst .ro 1 [], lst .ro 5 []], iV 0] []) else (A.callx 45 [agg [iV n21, lst .ro 5 l24], iV x.field] fun l25 => aI A l25 fun n28 l27 => asN A l27 (A.chk (decide ((0 : Int) ≤ n28)) (nthE A l24 n28.toNat fun v29 => asA A v29 fun l30 => aI A l30 fun n33 l32 => aI A l32 fun n36 l35 => aI A l35 fun n39 l38 => aI A l38 fun n42 l41 => aI A l41 fun n45 l44 => asN A l44 (bif (x.op == (2 : Int)) then (kc [agg [iV 22, iV x.form, iV 0, iV n28, iV 0, iV 0, iV 0, iV n33, iV n36, iV n39, iV n42, iV n45, iV x.n, str x.s, lst .ro 1 [], lst .ro 5 []], iV 0] []) else (bif (x.op == (3 : Int)) then (kc [agg [iV 23, iV x.form, iV x.field, iV 0, iV 0, iV 0, iV 0, iV n33, iV n36, iV n39, iV n42, iV n45, iV 0, str [], lst .ro 1 [], lst .ro 5 []], iV 0] []) else (bif (x.op == (4 : Int)) then (kc [agg [iV 24, iV x.form, iV x.field, iV 0, iV 0, iV x.a, iV x.b, iV n33, iV n36, iV n39, iV n42, iV n45, iV 0, str [], lst .ro 1 [], lst .ro 5 []], iV 0] []) else (bif (x.op == (5 : Int)) then (A.chk (decide (((0 : Nat) + (map (fun n => iV n) x.t).length) * 8 ≤ 211106232532992)) (kc [agg [iV 25, iV x.form, iV x.field, iV 0, iV 0, iV 0, iV 0, iV 0, iV 0, iV 0, iV 0, iV 0, iV 0, str [], lst .ro 1 (map (fun n => iV n) x.t), lst .ro 5 []], iV 0] [])) else (bif (x.op == (6 : Int)) then (kc [agg [iV 26, iV x.form, iV x.field, iV 0, iV x.to, iV x.a, iV 0, iV n33, iV n36, iV n39, iV n42, iV n45, iV 0, str [], lst .ro 1 [], lst .ro 5 []], iV 0] []) else (bif (x.op == (7 : Int)) then (kc [agg [iV 27, iV x.form, iV x.field, iV n28, iV 0, iV 0, iV 0, iV 0, iV 0, iV 0, iV 0, iV 0, iV 0, str [], lst .ro 1 [], lst .ro 5 []], iV 0] []) else (kc [agg [iV 28, iV x.form, iV x.to, iV 0, iV x.field, iV 0, iV 0, iV 0, iV 0, iV 0, iV 0, iV 0, iV 0, str [], lst .ro 1 [], lst .ro 5 []], iV 0] [])))))))))))))))))))
noncomputable def zoa {α : Type} (A : Alg α) (s : Sch) (l : List Stp) (kc : List AV → List (Nat × List AV) → α) : α :=
  A.loop 3 [lst .uq 16 [], lst .ro 16 (map stpV l), iV (↑(map stpV l).length : Int), iV 0] [[iV s.ver, lst .ro 2 (map frmV s.forms)]] fun j0 l1 l2 => bif (j0.beq 0) then (aL A 16 l1 fun l5 l4 => aI A l4 fun n8 l7 => asN A l7 (asN A l2 (kc [lst .ro 16 l5, iV n8] []))) else (bif (j0.beq 1) then (aU A 16 l1 fun l11 l10 => asN A l10 (asN A l2 (bif (l11.reverse.all AV.flat) then (kc [lst .ro 16 l11.reverse, iV 0] []) else A.fail))) else A.fail)
noncomputable def z8a {α : Type} (A : Alg α) (l : List Stp) (s : Sch) (d : List Stp) (m : Int) (i : Int) (next : List AV → List (List AV) → α) (kc : Nat → List AV → List (List AV) → α) : α :=
  bif (decide (i < m)) then (A.chk (decide ((0 : Int) ≤ i)) (nthE A (map stpV l) i.toNat fun v0 => asA A v0 fun l1 => aI A l1 fun n4 l3 => aI A l3 fun n7 l6 => aI A l6 fun n10 l9 => aI A l9 fun n13 l12 => aI A l12 fun n16 l15 => aI A l15 fun n19 l18 => aI A l18 fun n22 l21 => aI A l21 fun n25 l24 => aI A l24 fun n28 l27 => aI A l27 fun n31 l30 => aI A l30 fun n34 l33 => aI A l33 fun n37 l36 => aI A l36 fun n40 l39 => aS A l39 fun l43 l42 => aL A 1 l42 fun l46 l45 => aL A 5 l45 fun l49 l48 => asN A l48 (A.callx 62 [agg [iV s.ver, lst .ro 2 (map frmV s.forms)], agg [iV n4, iV n7, iV n10, iV n13, iV n16, iV n19, iV n22, iV n25, iV n28, iV n31, iV n34, iV n37, iV n40, str l43, lst .ro 1 l46, lst .ro 5 l49]] fun l50 => aA A l50 fun l53 l52 => aI A l53 fun n56 l55 => aI A l55 fun n59 l58 => aI A l58 fun n62 l61 => aI A l61 fun n65 l64 => aI A l64 fun n68 l67 => aI A l67 fun n71 l70 => aI A l70 fun n74 l73 => aI A l73 fun n77 l76 => aI A l76 fun n80 l79 => aI A l79 fun n83 l82 => aI A l82 fun n86 l85 => aI A l85 fun n89 l88 => aI A l88 fun n92 l91 => aS A l91 fun l95 l94 => aL A 1 l94 fun l98 l97 => aL A 5 l97 fun l101 l100 => asN A l100 (aI A l52 fun n104 l103 => asN A l103 (bif (n104 != (0 : Int)) then (kc 0 [lst .ro 16 [], iV n104] []) else (A.chk (decide (((map stpV d).length + [agg [iV n56, iV n59, iV n62, iV n65, iV n68, iV n71, iV n74, iV n77, iV n80, iV n83, iV n86, iV n89, iV n92, str l95, lst .ro (nat_lit 1) l98, lst .ro (nat_lit 5) l101]].length) * 168 ≤ 211106232532992)) (A.callx 43 [agg [iV s.ver, lst .ro 2 (map frmV s.forms)], agg [iV n4, iV n7, iV n10, iV n13, iV n16, iV n19, iV n22, iV n25, iV n28, iV n31, iV n34, iV n37, iV n40, str l43, lst .ro 1 l46, lst .ro 5 l49]] fun l105 => aA A l105 fun l108 l107 => aI A l108 fun n111 l110 => aL A 2 l110 fun l114 l113 => asN A l113 (aI A l107 fun n117 l116 => asN A l116 (bif ((map stpV d ++ [agg [iV n56, iV n59, iV n62, iV n65, iV n68, iV n71, iV n74, iV n77, iV n80, iV n83, iV n86, iV n89, iV n92, str l95, lst .ro (nat_lit 1) l98, lst .ro (nat_lit 5) l101]]).all AV.flat) then (next [lst .uq 16 (map stpV d ++ [agg [iV n56, iV n59, iV n62, iV n65, iV n68, iV n71, iV n74, iV n77, iV n80, iV n83, iV n86, iV n89, iV n92, str l95, lst .ro (nat_lit 1) l98, lst .ro (nat_lit 5) l101]]), lst .ro 16 (map stpV l), iV m, iV (IntKind.i64.wrap (i + (1 : Int)))] [[iV n111, lst .ro 2 l114]]) else A.fail))))))))) else (bif ((map stpV d).all AV.flat) then (kc 1 [lst .uq 16 (map stpV d)] []) else A.fail)
noncomputable def zob {α : Type} (A : Alg α) (s : Sch) (l : List Stp) (kc : List AV → List (Nat × List AV) → α) : α :=
  A.loop 3 [lst .ro 16 (map stpV l), lst .ro 16 [], iV 0] [[iV s.ver, lst .ro 2 (map frmV s.forms)]] fun j0 l1 l2 => bif (j0.beq 0) then (aL A 16 l1 fun l5 l4 => aI A l4 fun n8 l7 => asN A l7 (asN A l2 (kc [lst .ro 16 l5, iV n8] []))) else (bif (j0.beq 1) then (aL A 16 l1 fun l11 l10 => asN A l10 (asN A l2 (kc [lst .ro 16 l11, iV 0] []))) else A.fail)
noncomputable def z50 {α : Type} (A : Alg α) (l : List Stp) (s : Sch) (d : List Stp) (i : Int) (next : List AV → List (List AV) → α) (kc : Nat → List AV → List (List AV) → α) (n4 : Int) (n7 : Int) (n10 : Int) (n13 : Int) (n16 : Int) (n19 : Int) (n22 : Int) (n25 : Int) (n28 : Int) (n31 : Int) (n34 : Int) (n37 : Int) (n40 : Int) (l43 : List UInt8) (l46 : List AV) (l49 : List AV) : α :=
  A.callx 48 [agg [iV s.ver, lst .ro 2 (map frmV s.forms)], agg [iV n4, iV n7, iV n10, iV n13, iV n16, iV n19, iV n22, iV n25, iV n28, iV n31, iV n34, iV n37, iV n40, str l43, lst .ro 1 l46, lst .ro 5 l49]] fun l50 => aA A l50 fun l53 l52 => aI A l53 fun n56 l55 => aI A l55 fun n59 l58 => aI A l58 fun n62 l61 => aI A l61 fun n65 l64 => aI A l64 fun n68 l67 => aI A l67 fun n71 l70 => aI A l70 fun n74 l73 => aI A l73 fun n77 l76 => aI A l76 fun n80 l79 => aI A l79 fun n83 l82 => aI A l82 fun n86 l85 => aI A l85 fun n89 l88 => aI A l88 fun n92 l91 => aS A l91 fun l95 l94 => aL A 1 l94 fun l98 l97 => aL A 5 l97 fun l101 l100 => asN A l100 (aI A l52 fun n104 l103 => asN A l103 (bif (n104 != (0 : Int)) then (kc 0 [lst .ro 16 [], iV n104] []) else (A.chk (decide (([agg [iV n56, iV n59, iV n62, iV n65, iV n68, iV n71, iV n74, iV n77, iV n80, iV n83, iV n86, iV n89, iV n92, str l95, lst .ro (nat_lit 1) l98, lst .ro (nat_lit 5) l101]].length + (map stpV d).length) * 168 ≤ 211106232532992)) (A.chk (decide ((0 : Int) ≤ i)) (nthE A (map stpV l) i.toNat fun v105 => asA A v105 fun l106 => aI A l106 fun n109 l108 => aI A l108 fun n112 l111 => aI A l111 fun n115 l114 => aI A l114 fun n118 l117 => aI A l117 fun n121 l120 => aI A l120 fun n124 l123 => aI A l123 fun n127 l126 => aI A l126 fun n130 l129 => aI A l129 fun n133 l132 => aI A l132 fun n136 l135 => aI A l135 fun n139 l138 => aI A l138 fun n142 l141 => aI A l141 fun n145 l144 => aS A l144 fun l148 l147 => aL A 1 l147 fun l151 l150 => aL A 5 l150 fun l154 l153 => asN A l153 (A.callx 34 [agg [iV s.ver, lst .ro 2 (map frmV s.forms)], agg [iV n109, iV n112, iV n115, iV n118, iV n121, iV n124, iV n127, iV n130, iV n133, iV n136, iV n139, iV n142, iV n145, str l148, lst .ro 1 l151, lst .ro 5 l154]] fun l155 => aA A l155 fun l158 l157 => aI A l158 fun n161 l160 => aL A 2 l160 fun l164 l163 => asN A l163 (aI A l157 fun n167 l166 => asN A l166 (next [lst .ro 16 (map stpV l), lst .ro 16 ((agg [iV n56, iV n59, iV n62, iV n65, iV n68, iV n71, iV n74, iV n77, iV n80, iV n83, iV n86, iV n89, iV n92, str l95, lst .ro 1 l98, lst .ro 5 l101]) :: (map stpV d)), iV (IntKind.i64.wrap (i + (1 : Int)))] [[iV n161, lst .ro 2 l164]]))))))))
noncomputable def z8b {α : Type} (A : Alg α) (l : List Stp) (s : Sch) (d : List Stp) (i : Int) (next : List AV → List (List AV) → α) (kc : Nat → List AV → List (List AV) → α) : α :=
  bif (decide (i < (↑(map stpV l).length : Int))) then (A.chk (decide ((0 : Int) ≤ i)) (nthE A (map stpV l) i.toNat fun v0 => asA A v0 fun l1 => aI A l1 fun n4 l3 => aI A l3 fun n7 l6 => aI A l6 fun n10 l9 => aI A l9 fun n13 l12 => aI A l12 fun n16 l15 => aI A l15 fun n19 l18 => aI A l18 fun n22 l21 => aI A l21 fun n25 l24 => aI A l24 fun n28 l27 => aI A l27 fun n31 l30 => aI A l30 fun n34 l33 => aI A l33 fun n37 l36 => aI A l36 fun n40 l39 => aS A l39 fun l43 l42 => aL A 1 l42 fun l46 l45 => aL A 5 l45 fun l49 l48 => asN A l48 (A.both (dbl A (z50 A l s d i next kc n4 n7 n10 n13 n16 n19 n22 n25 n28 n31 n34 n37 n40 l43 l46 l49)) (z50 A l s d i next kc n4 n7 n10 n13 n16 n19 n22 n25 n28 n31 n34 n37 n40 l43 l46 l49)))) else (kc 1 [lst .ro 16 (map stpV d)] [])
noncomputable def zh6 {α : Type} (A : Alg α) (a : List Stp) (b : List Stp) (kc : List AV → List (Nat × List AV) → α) : α :=
  A.loop 2 [lst .ro 16 (map stpV a), lst .ro 16 (map stpV b), clo 41 [], iV 0] [] fun j0 l1 l2 => bif (j0.beq 1) then (aI A l1 fun n5 l4 => asN A l4 (asN A l2 (kc [iV n5] []))) else A.fail
noncomputable def z5j {α : Type} (A : Alg α) (a : List Stp) (b : List Stp) (i : Int) (next : List AV → List (List AV) → α) (kc : Nat → List AV → List (List AV) → α) : α :=
  bif (decide (i < if (↑(map stpV b).length : Int) < (↑(map stpV a).length : Int) then (↑(map stpV b).length : Int) else (↑(map stpV a).length : Int))) then (A.chk (decide ((0 : Int) ≤ i)) (nthE A (map stpV a) i.toNat fun v0 => asA A v0 fun l1 => aI A l1 fun n4 l3 => aI A l3 fun n7 l6 => aI A l6 fun n10 l9 => aI A l9 fun n13 l12 => aI A l12 fun n16 l15 => aI A l15 fun n19 l18 => aI A l18 fun n22 l21 => aI A l21 fun n25 l24 => aI A l24 fun n28 l27 => aI A l27 fun n31 l30 => aI A l30 fun n34 l33 => aI A l33 fun n37 l36 => aI A l36 fun n40 l39 => aS A l39 fun l43 l42 => aL A 1 l42 fun l46 l45 => aL A 5 l45 fun l49 l48 => asN A l48 (A.chk (decide ((0 : Int) ≤ i)) (nthE A (map stpV b) i.toNat fun v50 => asA A v50 fun l51 => aI A l51 fun n54 l53 => aI A l53 fun n57 l56 => aI A l56 fun n60 l59 => aI A l59 fun n63 l62 => aI A l62 fun n66 l65 => aI A l65 fun n69 l68 => aI A l68 fun n72 l71 => aI A l71 fun n75 l74 => aI A l74 fun n78 l77 => aI A l77 fun n81 l80 => aI A l80 fun n84 l83 => aI A l83 fun n87 l86 => aI A l86 fun n90 l89 => aS A l89 fun l93 l92 => aL A 1 l92 fun l96 l95 => aL A 5 l95 fun l99 l98 => asN A l98 (A.callx 41 [agg [iV n4, iV n7, iV n10, iV n13, iV n16, iV n19, iV n22, iV n25, iV n28, iV n31, iV n34, iV n37, iV n40, str l43, lst .ro 1 l46, lst .ro 5 l49], agg [iV n54, iV n57, iV n60, iV n63, iV n66, iV n69, iV n72, iV n75, iV n78, iV n81, iV n84, iV n87, iV n90, str l93, lst .ro 1 l96, lst .ro 5 l99]] fun l100 => aB A l100 fun b103 l102 => asN A l102 (bif b103 then (next [lst .ro 16 (map stpV a), lst .ro 16 (map stpV b), clo 41 [], iV (IntKind.i64.wrap (i + (1 : Int)))] []) else (kc 1 [iV i] []))))))) else (kc 1 [iV i] [])
noncomputable def zkj {α : Type} (A : Alg α) (s : Sch) (a : List Stp) (b : List Stp) (kc : List AV → List (Nat × List AV) → α) : α :=
  A.callx 26 [agg [iV s.ver, lst .ro 2 (map frmV s.forms)], lst .ro 16 (map stpV a)] fun l0 => aA A l0 fun l3 l2 => aI A l3 fun n6 l5 => aL A 2 l5 fun l9 l8 => asN A l8 (aI A l2 fun n12 l11 => aI A l11 fun n15 l14 => asN A l14 (bif (n15 != (0 : Int)) then (kc [iV n12, iV n15] []) else (A.callx 39 [agg [iV s.ver, lst .ro 2 (map frmV s.forms)], lst .ro 16 (map stpV a)] fun l16 => aL A 16 l16 fun l19 l18 => aI A l18 fun n22 l21 => asN A l21 (bif (n22 != (0 : Int)) then (kc [iV 0, iV n22] []) else (A.callx 40 [lst .ro 16 l19, lst .ro 16 (map stpV b), clo 41 []] fun l23 => aI A l23 fun n26 l25 => asN A l25 (bif (decide (n26 < if (↑l19.length : Int) < (↑(map stpV b).length : Int) then (↑(map stpV b).length : Int) else (↑l19.length : Int))) then (kc [iV n26, iV 18] []) else (kc [iV 0, iV 0] [])))))))
noncomputable def zkk {α : Type} (A : Alg α) (s : Sch) (a : List Stp) (b : List Stp) (kc : List AV → List (Nat × List AV) → α) : α :=
  A.callx 18 [agg [iV s.ver, lst .ro 2 (map frmV s.forms)], lst .ro 16 (map stpV a)] fun l0 => aA A l0 fun l3 l2 => aI A l3 fun n6 l5 => aL A 2 l5 fun l9 l8 => asN A l8 (aI A l2 fun n12 l11 => aI A l11 fun n15 l14 => asN A l14 (bif (n15 != (0 : Int)) then (kc [iV n12, iV n15] []) else (A.callx 33 [agg [iV s.ver, lst .ro 2 (map frmV s.forms)], lst .ro 16 (map stpV a)] fun l16 => aL A 16 l16 fun l19 l18 => aI A l18 fun n22 l21 => asN A l21 (A.loop 6 [lst .ro 16 (map stpV b), lst .ro 16 l19, iV 0] [] fun j23 l24 l25 => bif (j23.beq 0) then (aI A l24 fun n28 l27 => aI A l27 fun n31 l30 => asN A l30 (asN A l25 (kc [iV n28, iV n31] []))) else (bif (j23.beq 1) then (aL A 16 l24 fun l34 l33 => aL A 16 l33 fun l37 l36 => asN A l36 (asN A l25 (bif ((↑l37.length : Int) != (↑l34.length : Int)) then (kc [iV (if (↑l34.length : Int) < (↑l37.length : Int) then (↑l34.length : Int) else (↑l37.length : Int)), iV 18] []) else (kc [iV 0, iV 0] [])))) else A.fail)))))
noncomputable def z6r {α : Type} (A : Alg α) (a : List Stp) (b : List Stp) (i : Int) (next : List AV → List (List AV) → α) (kc : Nat → List AV → List (List AV) → α) : α :=
  A.join (fun x0 => bif (decide (i < (↑(map stpV a).length : Int))) then (x0 (decide (i < (↑(map stpV b).length : Int)))) else (x0 false)) fun b1 => bif b1 then (A.chk (decide ((0 : Int) ≤ i)) (nthE A (map stpV a) i.toNat fun v2 => asA A v2 fun l3 => aI A l3 fun n6 l5 => aI A l5 fun n9 l8 => aI A l8 fun n12 l11 => aI A l11 fun n15 l14 => aI A l14 fun n18 l17 => aI A l17 fun n21 l20 => aI A l20 fun n24 l23 => aI A l23 fun n27 l26 => aI A l26 fun n30 l29 => aI A l29 fun n33 l32 => aI A l32 fun n36 l35 => aI A l35 fun n39 l38 => aI A l38 fun n42 l41 => aS A l41 fun l45 l44 => aL A 1 l44 fun l48 l47 => aL A 5 l47 fun l51 l50 => asN A l50 (A.chk (decide ((0 : Int) ≤ i)) (nthE A (map stpV b) i.toNat fun v52 => asA A v52 fun l53 => aI A l53 fun n56 l55 => aI A l55 fun n59 l58 => aI A l58 fun n62 l61 => aI A l61 fun n65 l64 => aI A l64 fun n68 l67 => aI A l67 fun n71 l70 => aI A l70 fun n74 l73 => aI A l73 fun n77 l76 => aI A l76 fun n80 l79 => aI A l79 fun n83 l82 => aI A l82 fun n86 l85 => aI A l85 fun n89 l88 => aI A l88 fun n92 l91 => aS A l91 fun l95 l94 => aL A 1 l94 fun l98 l97 => aL A 5 l97 fun l101 l100 => asN A l100 (A.callx 20 [agg [iV n6, iV n9, iV n12, iV n15, iV n18, iV n21, iV n24, iV n27, iV n30, iV n33, iV n36, iV n39, iV n42, str l45, lst .ro 1 l48, lst .ro 5 l51], agg [iV n56, iV n59, iV n62, iV n65, iV n68, iV n71, iV n74, iV n77, iV n80, iV n83, iV n86, iV n89, iV n92, str l95, lst .ro 1 l98, lst .ro 5 l101]] fun l102 => aB A l102 fun b105 l104 => asN A l104 (bif (!b105) then (kc 0 [iV i, iV 18] []) else (next [lst .ro 16 (map stpV b), lst .ro 16 (map stpV a), iV (IntKind.i64.wrap (i + (1 : Int)))] []))))))) else (kc 1 [lst .ro 16 (map stpV b), lst .ro 16 (map stpV a)] [])
theorem zve (l : List Int) {r : CR} (h : zd0 (OA (tbl E0) (ltbl E0 89 0)) l (fun r o => some (r, o)) = some r) : tbl E0 89 [intsV l] [] = some r :=
  tblF Tryz.func89 h
theorem zyl (s : Sch) (x : Stp) {r : CR} (h : zfw (OA (tbl E0) (ltbl E0 88 0)) s x (fun r o => some (r, o)) = some r) : tbl E0 88 [schV s, stpV x] [] = some r :=
  tblF Tryz.func88 h
theorem zrs (s : Sch) (x : Stp) {r : CR} (h : zaa (OA (tbl E0) (ltbl E0 62 0)) s x (fun r o => some (r, o)) = some r) : tbl E0 62 [schV s, stpV x] [] = some r :=
  tblF Tryz.func62 h
theorem zrt (s : Sch) (x : Stp) {r : CR} (h : zab (OA (tbl E0) (ltbl E0 48 0)) s x (fun r o => some (r, o)) = some r) : tbl E0 48 [schV s, stpV x] [] = some r :=
  tblF Tryz.func48 h
theorem zym (s : Sch) (l : List Stp) {r : CR} (h : zoa (OA (tbl E0) (ltbl E0 39 0)) s l (fun r o => some (r, o)) = some r) : tbl E0 39 [schV s, stpsV l] [] = some r :=
  tblF Tryz.func39 h
theorem zkl (l : List Stp) (s : Sch) (d : List Stp) (m i : Int) {r : LR} (h : z8a (OA (tbl E0) (ltbl E0 39 0)) l s d m i (fun vs os => ltbl E0 39 0 3 vs os) (fun j vs os => some (j, vs, os)) = some r) : ltbl E0 39 0 3 [.lst .uq 16 (d.map stpV), stpsV l, iV m, iV i] [[iV s.ver, frmsV s.forms]] = some r :=
  ltblF Tryz.func39 h
theorem zyn (s : Sch) (l : List Stp) {r : CR} (h : zob (OA (tbl E0) (ltbl E0 33 0)) s l (fun r o => some (r, o)) = some r) : tbl E0 33 [schV s, stpsV l] [] = some r :=
  tblF Tryz.func33 h
theorem zkm (l : List Stp) (s : Sch) (d : List Stp) (i : Int) {r : LR} (h : z8b (OA (tbl E0) (ltbl E0 33 0)) l s d i (fun vs os => ltbl E0 33 0 3 vs os) (fun j vs os => some (j, vs, os)) = some r) : ltbl E0 33 0 3 [stpsV l, stpsV d, iV i] [[iV s.ver, frmsV s.forms]] = some r :=
  ltblF Tryz.func33 h
theorem zru (a b : List Stp) {r : CR} (h : zh6 (OA (tbl E0) (ltbl E0 40 0)) a b (fun r o => some (r, o)) = some r) : tbl E0 40 [stpsV a, stpsV b, .clo 41 []] [] = some r :=
  tblF Tryz.func40 h
theorem z8c (a b : List Stp) (i : Int) {r : LR} (h : z5j (OA (tbl E0) (ltbl E0 40 0)) a b i (fun vs os => ltbl E0 40 0 2 vs os) (fun j vs os => some (j, vs, os)) = some r) : ltbl E0 40 0 2 [stpsV a, stpsV b, .clo 41 [], iV i] [] = some r :=
  ltblF Tryz.func40 h
theorem zvf (s : Sch) (a b : List Stp) {r : CR} (h : zkj (OA (tbl E0) (ltbl E0 25 0)) s a b (fun r o => some (r, o)) = some r) : tbl E0 25 [schV s, stpsV a, stpsV b] [] = some r :=
  tblF Tryz.func25 h
theorem zvg (s : Sch) (a b : List Stp) {r : CR} (h : zkk (OA (tbl E0) (ltbl E0 17 0)) s a b (fun r o => some (r, o)) = some r) : tbl E0 17 [schV s, stpsV a, stpsV b] [] = some r :=
  tblF Tryz.func17 h
theorem zac (a b : List Stp) (i : Int) {r : LR} (h : z6r (OA (tbl E0) (ltbl E0 17 0)) a b i (fun vs os => ltbl E0 17 0 6 vs os) (fun j vs os => some (j, vs, os)) = some r) : ltbl E0 17 0 6 [stpsV b, stpsV a, iV i] [] = some r :=
  ltblF Tryz.func17 h
end Go.Proofs.YtjkjhgfiaodgmaaGreat.V
namespace Go.Proofs.YtjkjhgfiaodgmaaGreat.V
open Go
open AV (int lst agg str bool ref clo)
open List (map)
abbrev penA (b : List AV) (e : Int) : List (Nat × List AV) := [(0, [.lst (.own (.E 0 0)) 1 b, iV e])]
abbrev penV (b : List UInt8) (e : Int) : List (Nat × List AV) := penA (encB b) e
def s_put {α : Type} (A : Alg α) (b : List AV) (m : List AV) (e : Int) (kc : List AV → List (Nat × List AV) → α) : α :=
  A.chk (decide ((b.length + m.length) * 1 ≤ 211106232532992)) (kc [] [(0, [lst (.own (.E 0 0)) 1 (b ++ m), iV e])])
def zkn {α : Type} (A : Alg α) (b : List AV) (u : Int) (e : Int) (kc : List AV → List (Nat × List AV) → α) : α :=
  A.loop 0 [int .u64 u] [[lst (.own (.O 0 0)) 1 b, iV e]] fun j0 l1 l2 => bif (j0.beq 1) then (asC A l1 fun v3 l4 => asI A .u64 v3 fun n5 => asN A l4 (asC A l2 fun l6 l7 => asC A l6 fun v8 l9 => asOwn A 1 v8 fun x10 l11 => bif (x10.beq (.O (0 : Nat) (0 : Nat))) then (aI A l9 fun n14 l13 => asN A l13 (asN A l7 (A.call 86 [ref 0 0, lst .ro 1 [int .u8 (IntKind.u8.wrap n5)]] [(0, [lst (.own (.E 0 0)) 1 l11, iV n14])] fun l15 l16 => asC A l16 fun x17 l18 => bif (x17.1.beq 0) then (asC A x17.2 fun v19 l20 => asOwn A 1 v19 fun x21 l22 => aI A l20 fun n25 l24 => asN A l24 (asN A l15 (asN A l18 (kc [] [(0, [lst (.own (.E 0 0)) 1 l22, iV n25])])))) else A.fail))) else A.fail)) else A.fail
def zad {α : Type} (A : Alg α) (b : List AV) (u : Int) (e : Int) (next : List AV → List (List AV) → α) (kc : Nat → List AV → List (List AV) → α) : α :=
  bif (decide (u ≥ (128 : Int))) then (A.call 86 [ref 0 0, lst .ro 1 [int .u8 (bits Go.BinOp.or IntKind.u8 (IntKind.u8.wrap u) (128 : Int))]] [(0, [lst (.own (.E 0 0)) 1 b, iV e])] fun l0 l1 => asC A l1 fun x2 l3 => bif (x2.1.beq 0) then (asC A x2.2 fun v4 l5 => asOwn A 1 v4 fun x6 l7 => aI A l5 fun n10 l9 => asN A l9 (asN A l0 (asN A l3 (next [int .u64 (u.fdiv ((2 : Int) ^ (7 : Nat)))] [[lst (.own (.O 0 0)) 1 l7, iV n10]])))) else A.fail) else (kc 1 [int .u64 u] [[lst (.own (.O 0 0)) 1 b, iV e]])
def zd1 {α : Type} (A : Alg α) (b : List AV) (n : Int) (e : Int) (kc : List AV → List (Nat × List AV) → α) : α :=
  bif (decide (n < (0 : Int))) then (kc [] [(0, [lst (.own (.E 0 0)) 1 b, iV 2])]) else (A.call 85 [ref 0 0, int .u64 (IntKind.u64.wrap n)] [(0, [lst (.own (.E 0 0)) 1 b, iV e])] fun l0 l1 => asC A l1 fun x2 l3 => bif (x2.1.beq 0) then (asC A x2.2 fun v4 l5 => asOwn A 1 v4 fun x6 l7 => aI A l5 fun n10 l9 => asN A l9 (asN A l0 (asN A l3 (kc [] [(0, [lst (.own (.E 0 0)) 1 l7, iV n10])])))) else A.fail)
def zrw {α : Type} (A : Alg α) (b : List AV) (n : Int) (e : Int) (kc : List AV → List (Nat × List AV) → α) : α :=
  A.call 85 [ref 0 0, int .u64 (bits Go.BinOp.xor IntKind.u64 (IntKind.u64.wrap (IntKind.u64.wrap n * (2 : Int) ^ (1 : Nat))) (IntKind.u64.wrap (n.fdiv ((2 : Int) ^ (63 : Nat)))))] [(0, [lst (.own (.E 0 0)) 1 b, iV e])] fun l0 l1 => asC A l1 fun x2 l3 => bif (x2.1.beq 0) then (asC A x2.2 fun v4 l5 => asOwn A 1 v4 fun x6 l7 => aI A l5 fun n10 l9 => asN A l9 (asN A l0 (asN A l3 (kc [] [(0, [lst (.own (.E 0 0)) 1 l7, iV n10])])))) else A.fail
def zod {α : Type} (A : Alg α) (b : List AV) (s : List UInt8) (e : Int) (kc : List AV → List (Nat × List AV) → α) : α :=
  A.call 59 [ref 0 0, iV (↑s.length : Int)] [(0, [lst (.own (.E 0 0)) 1 b, iV e])] fun l0 l1 => asC A l1 fun x2 l3 => bif (x2.1.beq 0) then (asC A x2.2 fun v4 l5 => asOwn A 1 v4 fun x6 l7 => aI A l5 fun n10 l9 => asN A l9 (asN A l0 (asN A l3 (A.call 86 [ref 0 0, lst .ro 1 (encB s)] [(0, [lst (.own (.E 0 0)) 1 l7, iV n10])] fun l11 l12 => asC A l12 fun x13 l14 => bif (x13.1.beq 0) then (asC A x13.2 fun v15 l16 => asOwn A 1 v15 fun x17 l18 => aI A l16 fun n21 l20 => asN A l20 (asN A l11 (asN A l14 (kc [] [(0, [lst (.own (.E 0 0)) 1 l18, iV n21])])))) else A.fail)))) else A.fail
def zkp {α : Type} (A : Alg α) (b : List UInt8) (kc : List AV → List (Nat × List AV) → α) : α :=
  nilEq A Md.ro (encB b) fun b0 => bif b0 then (kc [lst .ro 1 []] []) else (A.chk (decide (((0 : Nat) + (encB b).length) * 1 ≤ 211106232532992)) (kc [lst .ro 1 (encB b)] []))
def zfx {α : Type} (A : Alg α) (b : List AV) (e : Int) (kc : List AV → List (Nat × List AV) → α) : α :=
  bif (e != (0 : Int)) then (kc [lst .ro 1 [], iV e] [(0, [lst (.own (.E 0 0)) 1 b, iV e])]) else (A.callx 87 [lst .ro 1 b] fun l0 => aL A 1 l0 fun l3 l2 => asN A l2 (kc [lst .ro 1 l3, iV 0] [(0, [lst (.own (.E 0 0)) 1 b, iV e])]))
def s_New {α : Type} (A : Alg α) (kc : List AV → List (Nat × List AV) → α) : α :=
  kc [ref 64 0] [(64, [lst (.own (.E 64 0)) 1 [], iV 0])]
theorem t_put (b m : List AV) (e : Int) {r : CR} (h : s_put (OA (tbl E0) (ltbl E0 86 0)) b m e (fun r o => some (r, o)) = some r) : tbl E0 86 [.ref 0 0, .lst .ro 1 m] (penA b e) = some r :=
  tblF Tryz.func86 h
theorem zvi (b : List AV) (u : Int) (e : Int) {r : CR} (h : zkn (OA (tbl E0) (ltbl E0 85 0)) b u e (fun r o => some (r, o)) = some r) : tbl E0 85 [.ref 0 0, .int .u64 u] (penA b e) = some r :=
  tblF Tryz.func85 h
theorem zh8 (b : List AV) (u : Int) (e : Int) {r : LR} (h : zad (OA (tbl E0) (ltbl E0 85 0)) b u e (fun vs os => ltbl E0 85 0 0 vs os) (fun j vs os => some (j, vs, os)) = some r) : ltbl E0 85 0 0 [.int .u64 u] [[.lst (.own (.O 0 0)) 1 b, iV e]] = some r :=
  ltblF Tryz.func85 h
theorem zvj (b : List AV) (n : Int) (e : Int) {r : CR} (h : zd1 (OA (tbl E0) (ltbl E0 59 0)) b n e (fun r o => some (r, o)) = some r) : tbl E0 59 [.ref 0 0, iV n] (penA b e) = some r :=
  tblF Tryz.func59 h
theorem z10u (b : List AV) (n : Int) (e : Int) {r : CR} (h : zrw (OA (tbl E0) (ltbl E0 107 0)) b n e (fun r o => some (r, o)) = some r) : tbl E0 107 [.ref 0 0, iV n] (penA b e) = some r :=
  tblF Tryz.func107 h
theorem zyp (b : List AV) (s : List UInt8) (e : Int) {r : CR} (h : zod (OA (tbl E0) (ltbl E0 60 0)) b s e (fun r o => some (r, o)) = some r) : tbl E0 60 [.ref 0 0, .str s] (penA b e) = some r :=
  tblF Tryz.func60 h
theorem zvl (b : List UInt8) {r : CR} (h : zkp (OA (tbl E0) (ltbl E0 87 0)) b (fun r o => some (r, o)) = some r) : tbl E0 87 [.lst .ro 1 (encB b)] [] = some r :=
  tblF Tryz.func87 h
theorem zyq (b : List AV) (e : Int) {r : CR} (h : zfx (OA (tbl E0) (ltbl E0 61 0)) b e (fun r o => some (r, o)) = some r) : tbl E0 61 [.ref 0 0] (penA b e) = some r :=
  tblF Tryz.func61 h
theorem t_New  {r : CR} (h : s_New (OA (tbl E0) (ltbl E0 58 0))  (fun r o => some (r, o)) = some r) : tbl E0 58 [] [] = some r :=
  tblF Tryz.func58 h
end Go.Proofs.YtjkjhgfiaodgmaaGreat.V
namespace Go.Proofs.YtjkjhgfiaodgmaaGreat.V
open Go
open AV (int lst agg str bool ref clo)
open List (map)
end Go.Proofs.YtjkjhgfiaodgmaaGreat.V
namespace Go.Proofs.YtjkjhgfiaodgmaaGreat.V
open Go
def cnt (u : Nat) : List UInt8 := if u < 128 then [byt u] else byt (u % 128 + 128) :: cnt (u / 128)
termination_by u
decreasing_by omega
def cntI (u : Nat) : List UInt8 := if u < 128 then [] else byt (u % 128 + 128) :: cntI (u / 128)
termination_by u
decreasing_by omega
def cntL (u : Nat) : Nat := if u < 128 then u else cntL (u / 128)
termination_by u
decreasing_by omega
theorem zrz (u : Nat) : cnt u = cntI u ++ [byt (cntL u)] := by
  induction u using cnt.induct with
  | case1 u h => rw [cnt, cntI, cntL]; simp [h]
  | case2 u h ih => rw [cnt, cntI, cntL]; simp [h, ih]
theorem zyr (u : Nat) : cntL u < 128 := by
  induction u using cntL.induct with
  | case1 u h => rw [cntL]; simp [h]
  | case2 u h ih => rw [cntL]; simp [h, ih]
theorem zys (k u : Nat) (h : u < 128 ^ (k + 1)) : (cnt u).length ≤ k + 1 := by
  induction k generalizing u with
  | zero => rw [cnt]; simp at h; simp [h]
  | succ k ih =>
    rw [cnt]
    split
    · simp
    · have : u / 128 < 128 ^ (k + 1) := by rw [Nat.div_lt_iff_lt_mul (by omega)]; rw [Nat.pow_succ] at h; exact h
      have := ih _ this
      simp; omega
theorem zg {u : Nat} (h : u < 18446744073709551616) : (cnt u).length ≤ 10 := zys 9 u (Nat.lt_of_lt_of_le h (by decide))
theorem zvm {u : Nat} (h : u < 18446744073709551616) : (cntI u).length + 1 ≤ 10 := by
  have := zg h; rw [zrz] at this
  simpa using this
theorem c_put (b m : List AV) (e : Int) (h : b.length + m.length ≤ 211106232532992) : tbl E0 86 [.ref 0 0, .lst .ro 1 m] (penA b e) = some ([], penA (b ++ m) e) :=
  t_put b m e (by simp [s_put, h, penA])
theorem fdiv7 (u : Nat) : (u : Int).fdiv ((2 : Int) ^ (7 : Nat)) = ((u / 128 : Nat) : Int) := by
  rw [Int.fdiv_eq_ediv_of_nonneg _ (by decide)]; omega
theorem or128' (u : Nat) : bits .or .u8 (IntKind.u8.wrap (u : Int)) 128 = ((u % 128 + 128 : Nat) : Int) := by
  rw [znr, show (u : Int) % 256 = ((u % 256 : Nat) : Int) by omega, or128 _ (by omega)]
  have : u % 256 % 128 = u % 128 := by omega
  rw [this]
theorem zq4 (u : Nat) : ∀ (b : List AV) (e : Int), u < 18446744073709551616 → b.length + (cntI u).length ≤ 211106232532992 → ltbl E0 85 0 0 [.int .u64 u] [[.lst (.own (.O 0 0)) 1 b, iV e]] = some (1, [.int .u64 (cntL u : Nat)], [[.lst (.own (.O 0 0)) 1 (b ++ encB (cntI u)), iV e]]) := by
  induction u using cnt.induct with
  | case1 u h =>
    intro b e hu hb; refine zh8 b u e ?_; rw [cntL, cntI]
    have : ¬ (128 : Int) ≤ (u : Int) := by omega
    simp [zad, h, this, z2h]
  | case2 u h ih =>
    intro b e hu hb; refine zh8 b u e ?_; rw [cntI] at hb; simp only [h, if_false, List.length_cons] at hb; rw [cntL, cntI]
    have h1 : (128 : Int) ≤ (u : Int) := by omega
    have hp := c_put b [.int .u8 ((u % 128 + 128 : Nat) : Int)] e (by simp; omega)
    simp only [penA] at hp
    have h2 := ih (b ++ [.int .u8 ((u % 128 + 128 : Nat) : Int)]) e (by omega) (by simp; omega)
    simp only [zad, or128', fdiv7]; simp only [ge_iff_le, h1, decide_true, cond_true, zi, hp, Option.bind_some, u_asC, zu, u_asI, u_asN, z9, Nat.beq_eq_true_eq, h2, h, if_false]
    simp only [z5a, z1v (show u % 128 + 128 < 256 by omega), List.append_assoc, List.singleton_append]
    rfl
theorem zh9 (b : List AV) (u : Nat) (e : Int) (hu : u < 18446744073709551616) (hb : b.length + 10 ≤ 211106232532992) : tbl E0 85 [.ref 0 0, .int .u64 u] (penA b e) = some ([], penA (b ++ encB (cnt u)) e) :=
  zvi b u e (by
    have hl := zvm hu
    have h1 := zq4 u b e hu (by omega)
    have h2 := c_put (b ++ encB (cntI u)) [.int .u8 (cntL u : Nat)] e (by simp; omega)
    have h3 := zyr u; simp only [penA] at h2
    simp [zkn, h1, zec (show (0 : Int) ≤ (cntL u : Nat) by omega) (by omega), h2, penA, zrz, zp, z5a, z2h, z1v (show cntL u < 256 by omega)])
end Go.Proofs.YtjkjhgfiaodgmaaGreat.V
namespace Go.Proofs.YtjkjhgfiaodgmaaGreat.V
open Go
theorem z2v (b : List AV) (n e : Int) (hb : b.length + 10 ≤ 211106232532992) (hn : n ≤ 9223372036854775807) : tbl E0 59 [.ref 0 0, iV n] (penA b e) = some ([], if n < 0 then penA b 2 else penA (b ++ encB (cnt n.toNat)) e) :=
  zvj b n e (by
    by_cases h : n < 0
    · simp [zd1, h]
    · have h1 := zh9 b n.toNat e (by omega) hb
      rw [Int.toNat_of_nonneg (by omega)] at h1
      simp [zd1, h, z3n (show 0 ≤ n by omega) (by omega), h1])
theorem zkq (b : List AV) (n e : Int) (hb : b.length + 10 ≤ 211106232532992) (h : -9223372036854775808 ≤ n) (h' : n ≤ 9223372036854775807) : tbl E0 107 [.ref 0 0, iV n] (penA b e) = some ([], penA (b ++ encB (cnt (zz n))) e) :=
  z10u b n e (by simp [zrw, zrk h h', zh9 b (zz n) e (zz_lt h h') hb, -Int.reducePow])
theorem zfy (b : List AV) (s : List UInt8) (e : Int) (hb : b.length + 10 + s.length ≤ 211106232532992) : tbl E0 60 [.ref 0 0, .str s] (penA b e) = some ([], penA (b ++ encB (cnt s.length ++ s)) e) :=
  zyp b s e (by
    have h1 := z2v b s.length e (by omega) (by omega)
    have h0 : ¬ ((s.length : Int) < 0) := by omega
    have hc := zg (u := s.length) (by omega)
    simp only [h0, if_false, Int.toNat_natCast] at h1
    have h2 := c_put (b ++ encB (cnt s.length)) (encB s) e (by simp; omega)
    simp [zod, h1, h2, zp])
theorem zvn (b : List UInt8) (hb : b.length ≤ 211106232532992) : tbl E0 87 [.lst .ro 1 (encB b)] [] = some ([.lst .ro 1 (encB b)], []) :=
  zvl b (by
    unfold zkp
    cases b with
    | nil => exact z75 fun b => by cases b <;> rfl
    | cons c l => simp only [z5a, zeb, cond_false, List.length_cons, z3o, z9]; simp at hb; simp [hb])
theorem zfz (b : List UInt8) (e : Int) (hb : b.length ≤ 211106232532992) : tbl E0 61 [.ref 0 0] (penV b e) = some ([.lst .ro 1 (if e = 0 then encB b else []), iV e], penV b e) :=
  zyq (encB b) e (by
    by_cases h : e = 0
    · subst h; simp [zfx, zvn b hb]
    · simp [zfx, h, bne_t h])
theorem c_New : tbl E0 58 [] [] = some ([.ref 64 0], [(64, [.lst (.own (.E 64 0)) 1 [], iV 0])]) := t_New rfl
end Go.Proofs.YtjkjhgfiaodgmaaGreat.V
namespace Go.Proofs.YtjkjhgfiaodgmaaGreat.V
open Go
end Go.Proofs.YtjkjhgfiaodgmaaGreat.V
namespace Go.Proofs.YtjkjhgfiaodgmaaGreat.V
open Go
end Go.Proofs.YtjkjhgfiaodgmaaGreat.V
namespace Go.Proofs.YtjkjhgfiaodgmaaGreat.V
open Go
end Go.Proofs.YtjkjhgfiaodgmaaGreat.V
namespace Go.Proofs.YtjkjhgfiaodgmaaGreat.V
open Go
end Go.Proofs.YtjkjhgfiaodgmaaGreat.V
namespace Go.Proofs.YtjkjhgfiaodgmaaGreat.V
open Go
theorem zks {f : Fld} (k : f.kind = 1) : rgtS f = (decide (0 ≤ f.id) && (decide (f.id ≤ 255) && (decide (-1099511627776 ≤ f.lo) && (decide (f.lo ≤ f.hi) && (decide (f.hi ≤ 1099511627776) && decide (f.most = 0)))))) := by
  simp [rgtS, k, Bool.and_assoc, Bool.decide_and]
theorem zkt {f : Fld} (k : f.kind = 2) : rgtS f = (decide (0 ≤ f.id) && (decide (f.id ≤ 255) && (decide (f.lo = 0) && (decide (f.hi = 0) && decide (f.most = 0))))) := by
  simp [rgtS, k, Bool.and_assoc, Bool.decide_and]
theorem zei {f : Fld} (k : f.kind = 3) : rgtS f = (decide (0 ≤ f.id) && (decide (f.id ≤ 255) && (decide (f.lo = 0) && (decide (f.hi = 0) && (decide (1 ≤ f.most) && decide (f.most ≤ 1000)))))) := by
  simp [rgtS, k, Bool.and_assoc, Bool.decide_and]
theorem zej {f : Fld} (k : f.kind = 4) : rgtS f = (decide (0 ≤ f.id) && (decide (f.id ≤ 255) && (decide (f.lo = 0) && (decide (f.hi = 0) && (decide (0 ≤ f.most) && decide (f.most ≤ 32)))))) := by
  simp [rgtS, k, Bool.and_assoc, Bool.decide_and]
theorem zek {f : Fld} (k1 : f.kind ≠ 1) (k2 : f.kind ≠ 2) (k3 : f.kind ≠ 3) (k4 : f.kind ≠ 4) : rgtS f = false := by
  simp [rgtS, k1, k2, k3, k4]
theorem z3w (f : Fld) : tbl E0 37 [fldV f] [] = some ([.bool (rgtS f)], []) :=
  zux f (by
    unfold zjv
    by_cases i0 : f.id < 0
    · have : rgtS f = false := by have : ¬ (0 ≤ f.id) := by omega
                                  simp [rgtS, this]
      simp [i0, this]
    · by_cases i1 : 255 < f.id
      · have : rgtS f = false := by have : ¬ (f.id ≤ 255) := by omega
                                    simp [rgtS, this]
        simp [i0, i1, this]
      · have j0 : 0 ≤ f.id := by omega
        have j1 : f.id ≤ 255 := by omega
        simp only [z9, cond_true, zk, i0, decide_false, cond_false, show ¬ (f.id > 255) from i1, Option.bind_some, Tok.untok_tok, z2g]
        by_cases k1 : f.kind = 1
        · rw [zks k1]
          by_cases a : -1099511627776 ≤ f.lo <;> by_cases b : f.lo ≤ f.hi <;> by_cases c : f.hi ≤ 1099511627776 <;> by_cases d : f.lo = 0 <;> by_cases e : f.most = 0 <;> simp [*]
        · by_cases k2 : f.kind = 2
          · rw [zkt k2]
            by_cases a : f.lo = 0 <;> by_cases b : f.hi = 0 <;> by_cases e : f.most = 0 <;> simp [*]
          · by_cases k3 : f.kind = 3
            · rw [zei k3]
              by_cases a : f.lo = 0 <;> by_cases b : f.hi = 0 <;> by_cases c : 1 ≤ f.most <;> simp [*]
            · by_cases k4 : f.kind = 4
              · rw [zej k4]
                by_cases a : f.lo = 0 <;> by_cases b : f.hi = 0 <;> by_cases c : 0 ≤ f.most <;> simp [*]
              · rw [zek k1 k2 k3 k4]
                by_cases a : f.lo = 0 <;> simp [*])
theorem z6s (f : Fld) (h : f.kind = 3 → rgtS f = true) : tbl E0 105 [fldV f] [] = some ([iV (loS f), iV (hiS f)], []) :=
  zgv f (by
    unfold z9v
    by_cases k1 : f.kind = 1
    · simp [k1, loS, hiS]
    · by_cases k2 : f.kind = 2
      · simp [k2, loS, hiS]
      · by_cases k3 : f.kind = 3
        · have h' := h k3
          rw [zei k3] at h'; simp only [Bool.and_eq_true, decide_eq_true_eq] at h'
          rw [wrap_i64 _ (by omega) (by omega)]
          simp [k3, loS, hiS]
        · simp [k1, k2, k3, loS, hiS])
theorem zs1 (n : Nat) : ∀ (w : Nat), n < 9223372036854775808 → w + n < 9223372036854775808 → ltbl E0 106 0 2 [iV (n : Int), iV (w : Int)] [] = some (1, [iV ((w + wdS n : Nat) : Int)], []) := by
  induction n using wdS.induct with
  | case1 =>
    intro w hn hw
    exact z9y _ _ (by rw [wdS]; simp [z6p])
  | case2 n h ih =>
    intro w hn hw; refine z9y _ _ ?_
    have h0 : (n : Int) > 0 := by omega
    have e : (n : Int).fdiv ((2 : Int) ^ (8 : Nat)) = ((n / 256 : Nat) : Int) := by rw [Int.fdiv_eq_ediv_of_nonneg _ (by decide)]; omega
    have e2 : IntKind.i64.wrap ((w : Int) + 1) = ((w + 1 : Nat) : Int) := by rw [wrap_i64 _ (by omega) (by omega)]; omega
    have e3 : wdS n = wdS (n / 256) + 1 := by rw [wdS]; simp [h]
    have := ih (w + 1) (by omega) (by omega)
    rw [e3, show w + (wdS (n / 256) + 1) = w + 1 + wdS (n / 256) by omega, ← this]
    simp only [z6p, h0, decide_true, cond_true, z9, e, e2]
theorem zvq (n : Int) (h : n < 9223372036854775808) : tbl E0 106 [iV n] [] = some ([iV (wdS n.toNat : Nat)], []) :=
  zuy n (by
    by_cases h0 : 0 ≤ n
    · have := zs1 n.toNat 0 (by omega) (by omega)
      rw [show (n.toNat : Int) = n by omega] at this
      simp only [Int.natCast_zero] at this; simp [zcr, this]
    · have e : ltbl E0 106 0 2 [iV n, iV 0] [] = some (1, [iV 0], []) := z9y _ _ (by
        have : ¬ (0 < n) := by omega
        simp [z6p, this])
      have e0 : n.toNat = 0 := by omega
      rw [e0, wdS]; simp [zcr, e])
theorem zvr (n : Nat) : ∀ (w : Nat), n < 9223372036854775808 → w + n < 9223372036854775808 → ltbl E0 103 0 2 [iV (n : Int), iV (w : Int)] [] = some (1, [iV ((w + wdS n : Nat) : Int)], []) := by
  induction n using wdS.induct with
  | case1 =>
    intro w hn hw
    exact zcz _ _ (by rw [wdS]; simp [z89])
  | case2 n h ih =>
    intro w hn hw; refine zcz _ _ ?_
    have h0 : (n : Int) > 0 := by omega
    have e : IntKind.i64.wrap ((n : Int).tdiv 256) = ((n / 256 : Nat) : Int) := by
      have e1 : (n : Int).tdiv 256 = ((n / 256 : Nat) : Int) := by rw [Int.tdiv_eq_ediv_of_nonneg (by omega)]; omega
      rw [e1, wrap_i64 _ (by omega) (by omega)]
    have e2 : IntKind.i64.wrap ((w : Int) + 1) = ((w + 1 : Nat) : Int) := by rw [wrap_i64 _ (by omega) (by omega)]; omega
    have e3 : wdS n = wdS (n / 256) + 1 := by rw [wdS]; simp [h]
    have := ih (w + 1) (by omega) (by omega)
    rw [e3, show w + (wdS (n / 256) + 1) = w + 1 + wdS (n / 256) by omega, ← this]
    simp only [z89, h0, decide_true, cond_true, z9, e, e2]
theorem zyv (n : Int) (h : n < 9223372036854775808) : tbl E0 103 [iV n] [] = some ([iV (wdS n.toNat : Nat)], []) :=
  zy4 n (by
    by_cases h0 : 0 ≤ n
    · have := zvr n.toNat 0 (by omega) (by omega)
      rw [show (n.toNat : Int) = n by omega] at this
      simp only [Int.natCast_zero] at this; simp [zfu, this]
    · have e : ltbl E0 103 0 2 [iV n, iV 0] [] = some (1, [iV 0], []) := zcz _ _ (by
        have : ¬ (0 < n) := by omega
        simp [z89, this])
      have e0 : n.toNat = 0 := by omega
      rw [e0, wdS]; simp [zfu, e])
theorem z1l {f : Fld} (h : rgtS f = true) : 0 ≤ f.id ∧ f.id ≤ 255 ∧ (f.kind = 1 ∨ f.kind = 2 ∨ f.kind = 3 ∨ f.kind = 4) ∧ 0 ≤ hiS f - loS f ∧ hiS f - loS f ≤ 2199023255552 ∧ (f.kind ≠ 1 → f.lo = 0 ∧ f.hi = 0) ∧ (f.kind = 1 → -1099511627776 ≤ f.lo ∧ f.lo ≤ f.hi ∧ f.hi ≤ 1099511627776 ∧ f.most = 0) ∧ 0 ≤ f.most ∧ f.most ≤ 1000 ∧ (f.kind = 4 → f.most ≤ 32) ∧ (f.kind = 3 → 1 ≤ f.most) ∧ (f.kind = 2 → f.most = 0) := by
  by_cases k1 : f.kind = 1
  · rw [zks k1] at h; simp [k1, loS, hiS] at h ⊢; omega
  · by_cases k2 : f.kind = 2
    · rw [zkt k2] at h; simp [k2, loS, hiS] at h ⊢; omega
    · by_cases k3 : f.kind = 3
      · rw [zei k3] at h; simp [k3, loS, hiS] at h ⊢; omega
      · by_cases k4 : f.kind = 4
        · rw [zej k4] at h; simp [k4, loS, hiS] at h ⊢; omega
        · rw [zek k1 k2 k3 k4] at h; cases h
theorem zyw (f : Fld) (h : rgtS f = true) : tbl E0 81 [fldV f] [] = some ([iV (wdS (hiS f - loS f).toNat : Nat)], []) :=
  zy2 f (by
    have r := z1l h; have e := z6s f (fun _ => h)
    have e2 := zvq (hiS f - loS f) (by omega)
    simp only [znt, z9, cond_true, za, e, Option.bind_some, u_asC, u_asI, u_asN, wrap_i64 (hiS f - loS f) (by omega) (by omega), e2])
theorem zyx (f : Fld) : tbl E0 55 [fldV f] [] = some ([iV (sizeS f)], []) :=
  zy3 f (by
    have e := z3w f; simp only [znu, z9, cond_true, za, e, Option.bind_some, u_asC, u_asB, u_asI, u_asN]
    cases h : rgtS f with
    | false => simp [sizeS, h]
    | true =>
      have r := z1l h; have e2 := zyw f h
      by_cases k4 : f.kind = 4
      · rw [wrap_i64 (f.most + 1) (by omega) (by omega)]
        simp [sizeS, h, k4]
      · by_cases k2 : f.kind = 2
        · simp [sizeS, h, k2, hiS, loS, wdS]
        · simp only [sizeS, h, k4, k2, beq_f k4, beq_f k2, if_true, if_false, Bool.not_true, cond_false, e2, Option.bind_some, u_asC, u_asI, u_asN])
theorem z7k (f : Fld) : ∃ lo hi most, tbl E0 71 [fldV f] [] = some ([iV lo, iV hi, iV most, .bool (rgtS f)], []) ∧ (rgtS f = true → lo = loS f ∧ hi = hiS f ∧ most = if f.kind = 4 then f.most else 0) := by
  by_cases k1 : f.kind = 1
  · refine ⟨f.lo, f.hi, 0, z7j f ?_, fun _ => by simp [k1, loS, hiS]⟩
    rw [zks k1]; simp only [z5o]
    by_cases a : 0 ≤ f.id <;> by_cases b : f.id ≤ 255 <;> by_cases c : -1099511627776 ≤ f.lo <;> by_cases d : f.lo ≤ f.hi <;> by_cases e : f.hi ≤ 1099511627776 <;> by_cases e2 : f.most = 0 <;> simp [*]
  · by_cases k2 : f.kind = 2
    · refine ⟨0, 1, 0, z7j f ?_, fun _ => by simp [k2, loS, hiS]⟩
      rw [zkt k2]; simp only [z5o]
      by_cases a : 0 ≤ f.id <;> by_cases b : f.id ≤ 255 <;> by_cases c : f.lo = 0 <;> by_cases d : f.hi = 0 <;> by_cases e2 : f.most = 0 <;> simp [*]
    · by_cases k3 : f.kind = 3
      · refine ⟨0, IntKind.i64.wrap (f.most - 1), 0, z7j f ?_, fun h => ?_⟩
        · rw [zei k3]
          simp only [z5o]
          by_cases a : 0 ≤ f.id <;> by_cases b : f.id ≤ 255 <;> by_cases c : f.lo = 0 <;> by_cases d : f.hi = 0 <;> by_cases e : 1 ≤ f.most <;> simp [*]
        · have r := z1l h
          rw [wrap_i64 _ (by omega) (by omega)]
          simp [k3, loS, hiS]
      · by_cases k4 : f.kind = 4
        · refine ⟨0, 0, f.most, z7j f ?_, fun _ => by simp [k4, loS, hiS]⟩
          rw [zej k4]; simp only [z5o]
          by_cases a : 0 ≤ f.id <;> by_cases b : f.id ≤ 255 <;> by_cases c : f.lo = 0 <;> by_cases d : f.hi = 0 <;> by_cases e : 0 ≤ f.most <;> simp [*]
        · refine ⟨0, 0, 0, z7j f ?_, fun h => by rw [zek k1 k2 k3 k4] at h; cases h⟩
          rw [zek k1 k2 k3 k4]; simp only [z5o]
          by_cases a : 0 ≤ f.id <;> simp [*]
theorem zd4 (f : Fld) : tbl E0 44 [fldV f] [] = some ([.bool (rgtS f)], []) := by
  obtain ⟨lo, hi, most, e, _⟩ := z7k f
  exact zuz f (by simp only [zjw, z9, cond_true, za, e, Option.bind_some, u_asC, u_asI, u_asB, u_asN])
theorem zyy (f : Fld) : tbl E0 72 [fldV f] [] = some ([iV (sizeS f)], []) := by
  obtain ⟨lo, hi, most, e, h⟩ := z7k f; refine zy5 f ?_; simp only [znv, z9, cond_true, za, e, Option.bind_some, u_asC, u_asI, u_asB, u_asN]
  cases hr : rgtS f with
  | false => simp [sizeS, hr]
  | true =>
    obtain ⟨rfl, rfl, rfl⟩ := h hr; have r := z1l hr
    by_cases k4 : f.kind = 4
    · rw [if_pos k4, wrap_i64 (1 + f.most) (by omega) (by omega)]
      simp [sizeS, hr, k4, Int.add_comm]
    · have e2 := zyv (hiS f - loS f) (by omega)
      simp only [sizeS, hr, k4, beq_f k4, if_true, if_false, Bool.not_true, cond_false, wrap_i64 (hiS f - loS f) (by omega) (by omega), e2, Option.bind_some, u_asC, u_asI, u_asN]
end Go.Proofs.YtjkjhgfiaodgmaaGreat.V
namespace Go.Proofs.YtjkjhgfiaodgmaaGreat.V
open Go
theorem zl {α : Type} {l r : List α} {i : Nat} {a : α} (h : l.drop i = a :: r) : i < l.length ∧ l[i]? = some a ∧ l.drop (i + 1) = r := by
  have hlt : i < l.length := by
    rcases Nat.lt_or_ge i l.length with h' | h'
    · exact h'
    · rw [List.drop_eq_nil_of_le h'] at h; cases h
  rw [List.drop_eq_getElem_cons hlt] at h; injection h with h1 h2
  exact ⟨hlt, by rw [List.getElem?_eq_getElem hlt, h1], h2⟩
theorem zh {i : Nat} (h : i < 9223372036854775807) : IntKind.i64.wrap ((i : Int) + 1) = ((i + 1 : Nat) : Int) := by rw [wrap_i64 _ (by omega) (by omega)]; omega
theorem z10x (k : Nat) : ∀ n, n < 256 ^ k → wdS n ≤ k := by
  induction k with
  | zero => intro n h; simp at h; subst h; rw [wdS]; simp
  | succ k ih =>
    intro n h; rw [wdS]
    split
    · omega
    · have := ih (n / 256) (by rw [Nat.div_lt_iff_lt_mul (by omega)]; rw [Nat.pow_succ] at h; exact h)
      omega
theorem zaf (f : Fld) : 0 ≤ sizeS f ∧ sizeS f ≤ 33 := by
  unfold sizeS
  split
  · rename_i h
    have r := z1l h
    split
    · rename_i k; have := r.2.2.2.2.2.2.2.2.2.1 k; omega
    · have := z10x 6 (hiS f - loS f).toNat (by have e6 : (256 : Nat) ^ 6 = 281474976710656 := (by decide); omega)
      omega
  · omega
theorem zel (f : Fld) (l : List Fld) : longS (f :: l) = sizeS f + longS l := by simp [longS]
theorem zvs (l : List Fld) (hl : l.length ≤ 211106232532992) : ∀ (r : List Fld) (i : Nat) (n : Int), l.drop i = r → 0 ≤ n → n ≤ 33 * i →
    ltbl E0 36 0 3 [iV n, fldsV l, iV l.length, iV i] [] = some (1, [iV (n + longS r)], []) := by
  intro r
  induction r with
  | nil =>
    intro i n hr h0 h1
    have h : l.length ≤ i := by simpa using hr
    refine zk1 _ _ _ _ ?_
    have : ¬ ((i : Int) < l.length) := by omega
    simp [zcs, this, longS]
  | cons f r ih =>
    intro i n hr h0 h1; obtain ⟨hlt, hget, hr2⟩ := zl hr; have hs := zaf f
    have h2 : (i : Int) < l.length := by omega
    have e1 := zh (i := i) (by omega)
    have e2 : IntKind.i64.wrap (n + sizeS f) = n + sizeS f := wrap_i64 _ (by omega) (by omega)
    have h := ih (i + 1) (n + sizeS f) hr2 (by omega) (by omega)
    have c := zyx f; refine zk1 _ _ _ _ ?_; rw [zel, ← Int.add_assoc, ← h]; simp only [zcs, h2, decide_true, cond_true, z9, Int.natCast_nonneg, nthE, Int.toNat_natCast, List.getElem?_map, hget, Option.map_some, u_asA, u_asC, u_asI, u_asN, za, c, Option.bind_some, e1, e2]
theorem zyz (f : Frm) (h : f.fields.length ≤ 211106232532992) : tbl E0 36 [frmV f] [] = some ([iV (longS f.fields)], []) :=
  zy6 f (by
    have e := zvs f.fields h f.fields 0 0 rfl (by omega) (by omega)
    simp only [Int.natCast_zero, Int.zero_add] at e; simp [znw, e])
theorem zvt (f : Frm) (hl : f.fields.length ≤ 211106232532992) : ∀ (r : List Fld) (i : Nat) (n : Int), f.fields.drop i = r → 0 ≤ n → n ≤ 33 * i →
    ltbl E0 46 0 3 [iV n, iV i] [[iV f.id, fldsV f.fields]] = some (1, [iV (n + longS r)], []) := by
  intro r
  induction r with
  | nil =>
    intro i n hr h0 h1
    have h : f.fields.length ≤ i := by simpa using hr
    refine zk2 _ _ _ ?_
    have : ¬ ((i : Int) < f.fields.length) := by omega
    simp [zct, this, longS]
  | cons x r ih =>
    intro i n hr h0 h1; obtain ⟨hlt, hget, hr2⟩ := zl hr; have hs := zaf x
    have h2 : (i : Int) < f.fields.length := by omega
    have e1 := zh (i := i) (by omega)
    have e2 : IntKind.i64.wrap (n + sizeS x) = n + sizeS x := wrap_i64 _ (by omega) (by omega)
    have h := ih (i + 1) (n + sizeS x) hr2 (by omega) (by omega)
    have c := zyy x; refine zk2 _ _ _ ?_; rw [zel, ← Int.add_assoc, ← h]; simp only [zct, zb, List.length_map, h2, decide_true, cond_true, z9, Int.natCast_nonneg, nthE, Int.toNat_natCast, List.getElem?_map, hget, Option.map_some, u_asA, u_asC, u_asI, u_asN, za, c, Option.bind_some, e1, e2]
theorem zz0 (f : Frm) (h : f.fields.length ≤ 211106232532992) : tbl E0 46 [frmV f] [] = some ([iV (longS f.fields)], []) :=
  zy7 f (by
    have e := zvt f h f.fields 0 0 rfl (by omega) (by omega)
    simp only [Int.natCast_zero, Int.zero_add] at e; simp [znx, e])
def atS (l : List Fld) (id : Int) : Int := firstS (fun f : Fld => f.id == id) l
def fromS {α : Type} (p : α → Bool) (i : Nat) (l : List α) : LR := match l.findIdx? p with | some j => (0, [iV ((i + j : Nat) : Int)], []) | none => (1, [], [])
theorem zag {α : Type} (p : α → Bool) (i : Nat) : fromS p i [] = (1, [], []) := rfl
theorem z8e {α : Type} (p : α → Bool) (i : Nat) (a : α) (l : List α) : fromS p i (a :: l) = if p a then (0, [iV (i : Int)], []) else fromS p (i + 1) l := by
  unfold fromS; rw [List.findIdx?_cons]
  cases p a with
  | true => simp
  | false =>
    simp only [Bool.false_eq_true, if_false]
    cases l.findIdx? p with
    | none => rfl
    | some j => simp [Nat.add_assoc, Nat.add_comm 1 j]
theorem z10y (f : Fld) (id : Int) : tbl E0 113 [fldV f, .rp [iV id] 0] [] = some ([.bool (f.id == id)], []) := z10p f id (by simp [zrl])
theorem zku (l : List Fld) (id : Int) (hl : l.length ≤ 211106232532992) : ∀ (r : List Fld) (i : Nat), l.drop i = r →
    ltbl E0 112 0 2 [fldsV l, .clo 113 [.rp [iV id] 0], iV l.length, iV i] [] = some (fromS (fun f : Fld => f.id == id) i r) := by
  intro r
  induction r with
  | nil =>
    intro i hr
    have h : l.length ≤ i := by simpa using hr
    refine z9z _ _ _ _ ?_
    have : ¬ ((i : Int) < l.length) := by omega
    simp [z5y, this, zag]
  | cons f r ih =>
    intro i hr; obtain ⟨hlt, hget, hr2⟩ := zl hr
    have h2 : (i : Int) < l.length := by omega
    have e1 := zh (i := i) (by omega)
    have h := ih (i + 1) hr2; have c := z10y f id; refine z9z _ _ _ _ ?_; rw [z8e]; simp only [z5y, h2, decide_true, cond_true, z9, Int.natCast_nonneg, nthE, Int.toNat_natCast, List.getElem?_map, hget, Option.map_some, u_asA, u_asC, u_asI, u_asB, u_asN, za, c, Option.bind_some, e1, h]
    cases f.id == id <;> rfl
theorem c_sAt (f : Frm) (id : Int) (h : f.fields.length ≤ 211106232532992) : tbl E0 94 [frmV f, iV id] [] = some ([iV (atS f.fields id)], []) :=
  t_sAt f id (by
    have e : tbl E0 112 [fldsV f.fields, .clo 113 [.rp [iV id] 0]] [] = some ([iV (atS f.fields id)], []) := zms f.fields id (by
      have e := zku f.fields id h f.fields 0 rfl; simp only [Int.natCast_zero] at e; simp only [zc1, zb, ze, List.length_map, e, Option.bind_some, fromS, atS, firstS]
      cases f.fields.findIdx? (fun f : Fld => f.id == id) <;> simp)
    simp [s_sAt, e])
theorem z10z (f : Frm) (id : Int) (hl : f.fields.length ≤ 211106232532992) : ∀ (r : List Fld) (i : Nat), f.fields.drop i = r →
    ltbl E0 45 0 2 [iV id, iV i] [[iV f.id, fldsV f.fields]] = some (fromS (fun f : Fld => f.id == id) i r) := by
  intro r
  induction r with
  | nil =>
    intro i hr
    have h : f.fields.length ≤ i := by simpa using hr
    refine zrn _ _ _ ?_
    have : ¬ ((i : Int) < f.fields.length) := by omega
    simp [zk0, this, zag]
  | cons x r ih =>
    intro i hr; obtain ⟨hlt, hget, hr2⟩ := zl hr
    have h2 : (i : Int) < f.fields.length := by omega
    have e1 := zh (i := i) (by omega)
    have h := ih (i + 1) hr2; refine zrn _ _ _ ?_; rw [z8e]; simp only [zk0, zb, List.length_map, h2, decide_true, cond_true, z9, Int.natCast_nonneg, nthE, Int.toNat_natCast, List.getElem?_map, hget, Option.map_some, u_asA, u_asC, u_asI, u_asB, u_asN, e1, h]
    cases x.id == id <;> rfl
theorem c_yAt (f : Frm) (id : Int) (h : f.fields.length ≤ 211106232532992) : tbl E0 45 [frmV f, iV id] [] = some ([iV (atS f.fields id)], []) :=
  t_yAt f id (by
    have e := z10z f id h f.fields 0 rfl; simp only [Int.natCast_zero] at e; simp only [s_yAt, z9, cond_true, ze, e, Option.bind_some, fromS, atS, firstS]
    cases f.fields.findIdx? (fun f : Fld => f.id == id) <;> simp)
theorem zem (s : List Bool) (k : Nat) (b : Bool) : setAt (s.map AV.bool) k [AV.bool b] = (s.set k b).map AV.bool := by
  simp [setAt, List.map_set]
theorem z8w (s : List Bool) : (s.map AV.bool).all AV.flat1 = true := by
  simp [List.all_map, Function.comp_def, AV.flat1]
def freshS : List Bool → List Fld → Bool
  | _, [] => true
  | s, f :: l => rgtS f && !((s[f.id.toNat]?).getD false) && freshS (s.set f.id.toNat true) l
theorem zvu (l : List Fld) (hl : l.length ≤ 211106232532992) : ∀ (r : List Fld) (i : Nat) (s : List Bool), l.drop i = r → s.length = 256 →
    ltbl E0 23 0 5 [fldsV l, iV l.length, iV i] [s.map AV.bool] = some (if freshS s r then (1, [], []) else (0, [.bool false], [])) := by
  intro r
  induction r with
  | nil =>
    intro i s hr hs
    have h : l.length ≤ i := by simpa using hr
    refine zk3 _ _ _ _ ?_
    have : ¬ ((i : Int) < l.length) := by omega
    simp [zcu, this, freshS]
  | cons f r ih =>
    intro i s hr hs; obtain ⟨hlt, hget, hr2⟩ := zl hr
    have h2 : (i : Int) < l.length := by omega
    have e1 := zh (i := i) (by omega)
    have h := ih (i + 1) (s.set f.id.toNat true) hr2 (by simpa using hs)
    have c := z3w f; refine zk3 _ _ _ _ ?_; simp only [zcu, h2, decide_true, cond_true, z9, Int.natCast_nonneg, nthE, Int.toNat_natCast, List.getElem?_map, hget, Option.map_some, u_asA, u_asC, u_asI, u_asB, u_asN, za, zk, c, Option.bind_some, e1, freshS]
    by_cases hg : rgtS f = true
    · have rr := z1l hg
      have hk : f.id.toNat < s.length := by omega
      have g : s[f.id.toNat]? = some s[f.id.toNat] := List.getElem?_eq_getElem hk; have a1 : 0 ≤ f.id := rr.1
      have a2 : f.id < ((256 : Nat) : Int) := by omega
      have a3 : 0 + f.id.toNat * 1 = f.id.toNat := by omega
      have a4 : (f.id.toNat + 1).ble (List.map AV.bool s).length = true := by rw [Nat.ble_eq, List.length_map]; omega
      simp only [hg, a1, a2, a3, a4, decide_true, Bool.and_self, cond_true, g, Option.map_some, u_asB, Bool.not_true, cond_false, Option.bind_some, Tok.untok_tok, zem, z8w, h, Option.getD_some, Bool.true_and]
      by_cases hb : s[f.id.toNat] = true
      · simp [hb]
      · have hb : s[f.id.toNat] = false := by simpa using hb
        simp [hb]
    · have hg : rgtS f = false := by simpa using hg
      simp [hg]
theorem zen : ∀ (l : List Fld) (s : List Bool), s.length = 256 → (freshS s l = true ↔ (∀ f ∈ l, rgtS f = true ∧ s[f.id.toNat]? = some false) ∧ nodupI (l.map Fld.id) = true)
  | [], s, _ => by simp [freshS, nodupI]
  | f :: l, s, hs => by
    have ih := zen l (s.set f.id.toNat true) (by simpa using hs)
    simp only [freshS, Bool.and_eq_true, ih, List.map_cons, nodupI, Bool.not_eq_true', List.mem_cons, forall_eq_or_imp]
    have key : rgtS f = true → ((s[f.id.toNat]?).getD false = false ↔ s[f.id.toNat]? = some false) := by
      intro hg; have rr := z1l hg
      have hk : f.id.toNat < s.length := by omega
      rw [List.getElem?_eq_getElem hk]; simp
    have key2 : rgtS f = true → ∀ g, rgtS g = true → ((s.set f.id.toNat true)[g.id.toNat]? = some false ↔ (s[g.id.toNat]? = some false ∧ g.id ≠ f.id)) := by
      intro hg g hgg; have r1 := z1l hg; have r2 := z1l hgg; rw [List.getElem?_set]
      by_cases e : f.id.toNat = g.id.toNat
      · have e' : g.id = f.id := by omega
        rw [if_pos e, if_pos (by omega)]
        simp [e']
      · have e' : g.id ≠ f.id := by omega
        rw [if_neg e]; simp [e']
    constructor
    · rintro ⟨⟨h1, h2⟩, h3, h4⟩
      refine ⟨⟨⟨h1, (key h1).1 h2⟩, fun g hg => ⟨(h3 g hg).1, ((key2 h1 g (h3 g hg).1).1 (h3 g hg).2).1⟩⟩, ?_, h4⟩; simp only [List.any_map, List.any_eq_false, Function.comp_apply, beq_iff_eq]; intro g hg; exact ((key2 h1 g (h3 g hg).1).1 (h3 g hg).2).2
    · rintro ⟨⟨⟨h1, h2⟩, h3⟩, h4, h5⟩
      refine ⟨⟨h1, (key h1).2 h2⟩, fun g hg => ⟨(h3 g hg).1, (key2 h1 g (h3 g hg).1).2 ⟨(h3 g hg).2, ?_⟩⟩, h5⟩; simp only [List.any_map, List.any_eq_false, Function.comp_apply, beq_iff_eq] at h4; exact h4 g hg
theorem zvv (l : List Fld) : freshS (List.replicate 256 false) l = (l.all rgtS && nodupI (l.map Fld.id)) := by
  rw [Bool.eq_iff_iff, zen _ _ List.length_replicate]; simp only [Bool.and_eq_true, List.all_eq_true]; constructor
  · rintro ⟨h1, h2⟩; exact ⟨fun f hf => (h1 f hf).1, h2⟩
  · rintro ⟨h1, h2⟩
    refine ⟨fun f hf => ⟨h1 f hf, ?_⟩, h2⟩; have r := z1l (h1 f hf)
    rw [List.getElem?_replicate, if_pos (by omega)]
set_option maxRecDepth 20000 in
theorem bools256 : (List.replicate 256 false).map AV.bool = [.bool false, .bool false, .bool false, .bool false, .bool false, .bool false, .bool false, .bool false, .bool false, .bool false, .bool false, .bool false, .bool false, .bool false, .bool false, .bool false, .bool false, .bool false, .bool false, .bool false, .bool false, .bool false, .bool false, .bool false, .bool false, .bool false, .bool false, .bool false, .bool false, .bool false, .bool false, .bool false, .bool false, .bool false, .bool false, .bool false, .bool false, .bool false, .bool false, .bool false, .bool false, .bool false, .bool false, .bool false, .bool false, .bool false, .bool false, .bool false, .bool false, .bool false, .bool false, .bool false, .bool false, .bool false, .bool false, .bool false, .bool false, .bool false, .bool false, .bool false, .bool false, .bool false, .bool false, .bool false, .bool false, .bool false, .bool false, .bool false, .bool false, .bool false, .bool false, .bool false, .bool false, .bool false, .bool false, .bool false, .bool false, .bool false, .bool false, .bool false, .bool false, .bool false, .bool false, .bool false, .bool false, .bool false, .bool false, .bool false, .bool false, .bool false, .bool false, .bool false, .bool false, .bool false, .bool false, .bool false, .bool false, .bool false, .bool false, .bool false, .bool false, .bool false, .bool false, .bool false, .bool false, .bool false, .bool false, .bool false, .bool false, .bool false, .bool false, .bool false, .bool false, .bool false, .bool false, .bool false, .bool false, .bool false, .bool false, .bool false, .bool false, .bool false, .bool false, .bool false, .bool false, .bool false, .bool false, .bool false, .bool false, .bool false, .bool false, .bool false, .bool false, .bool false, .bool false, .bool false, .bool false, .bool false, .bool false, .bool false, .bool false, .bool false, .bool false, .bool false, .bool false, .bool false, .bool false, .bool false, .bool false, .bool false, .bool false, .bool false, .bool false, .bool false, .bool false, .bool false, .bool false, .bool false, .bool false, .bool false, .bool false, .bool false, .bool false, .bool false, .bool false, .bool false, .bool false, .bool false, .bool false, .bool false, .bool false, .bool false, .bool false, .bool false, .bool false, .bool false, .bool false, .bool false, .bool false, .bool false, .bool false, .bool false, .bool false, .bool false, .bool false, .bool false, .bool false, .bool false, .bool false, .bool false, .bool false, .bool false, .bool false, .bool false, .bool false, .bool false, .bool false, .bool false, .bool false, .bool false, .bool false, .bool false, .bool false, .bool false, .bool false, .bool false, .bool false, .bool false, .bool false, .bool false, .bool false, .bool false, .bool false, .bool false, .bool false, .bool false, .bool false, .bool false, .bool false, .bool false, .bool false, .bool false, .bool false, .bool false, .bool false, .bool false, .bool false, .bool false, .bool false, .bool false, .bool false, .bool false, .bool false, .bool false, .bool false, .bool false, .bool false, .bool false, .bool false, .bool false, .bool false, .bool false, .bool false, .bool false, .bool false, .bool false, .bool false, .bool false, .bool false, .bool false, .bool false, .bool false, .bool false, .bool false, .bool false, .bool false] := rfl
set_option maxRecDepth 20000 in
theorem zoe (f : Frm) (h : f.fields.length ≤ 211106232532992) : tbl E0 23 [frmV f] [] = some ([.bool (fineS f)], []) :=
  zy8 f (by
    have e := zvu f.fields h f.fields 0 (List.replicate 256 false) rfl List.length_replicate; simp only [Int.natCast_zero, zvv] at e; rw [bools256] at e; have c := zyz f h; simp only [zny, z9, cond_true, zk, zb, List.length_map, za, c, Option.bind_some, u_asC, u_asI, u_asB, u_asN, ze, e]; unfold fineS
    by_cases a1 : f.id < 0
    · have : ¬ (0 ≤ f.id) := by omega
      simp [a1, this]
    · by_cases a2 : f.id > 200
      · have : ¬ (f.id ≤ 200) := by omega
        simp [a1, a2, this]
      · by_cases a3 : (f.fields.length : Int) < 1
        · have : ¬ (1 ≤ f.fields.length) := by omega
          simp [a1, a2, a3, this]
        · by_cases a4 : (f.fields.length : Int) > 8
          · have : ¬ (f.fields.length ≤ 8) := by omega
            simp [a1, a2, a3, a4, this]
          · by_cases a5 : longS f.fields > 64
            · have : ¬ (longS f.fields ≤ 64) := by omega
              simp [a1, a2, a3, a4, a5, this]
            · have b1 : 0 ≤ f.id ∧ f.id ≤ 200 := by omega
              have b2 : 1 ≤ f.fields.length ∧ f.fields.length ≤ 8 := by omega
              have b3 : longS f.fields ≤ 64 := by omega
              simp only [a1, a2, a3, a4, a5, b1, b2, b3, decide_true, decide_false, cond_false, Option.bind_some, Tok.untok_tok, Bool.true_and, and_self]
              cases (f.fields.all rgtS && nodupI (f.fields.map Fld.id)) <;> simp)
def idxS (l : List Fld) : Nat → List Fld → Bool
  | _, [] => true
  | i, x :: r => rgtS x && decide (atS l x.id = i) && idxS l (i + 1) r
theorem zz1 (p r : List Fld) (x : Fld) : atS (p ++ x :: r) x.id = p.length ↔ ∀ f ∈ p, f.id ≠ x.id := by
  unfold atS firstS; constructor
  · intro h f hf e
    have h1 : (p ++ x :: r).findIdx? (fun f : Fld => f.id == x.id) = (p.findIdx? (fun f : Fld => f.id == x.id)).or _ := List.findIdx?_append
    cases h2 : p.findIdx? (fun f : Fld => f.id == x.id) with
    | none =>
      rw [List.findIdx?_eq_none_iff] at h2; have := h2 f hf; simp [e] at this
    | some j =>
      rw [h1, h2] at h; obtain ⟨hj, _⟩ := List.findIdx?_eq_some_iff_getElem.1 h2; simp only [Option.some_or] at h; omega
  · intro h
    have h2 : p.findIdx? (fun f : Fld => f.id == x.id) = none := by
      rw [List.findIdx?_eq_none_iff]; intro f hf
      simpa using h f hf
    rw [List.findIdx?_append, h2, List.findIdx?_cons]; simp
theorem zkv : ∀ (r p : List Fld), idxS (p ++ r) p.length r = true ↔ (∀ x ∈ r, rgtS x = true ∧ ∀ f ∈ p, f.id ≠ x.id) ∧ nodupI (r.map Fld.id) = true
  | [], p => by simp [idxS, nodupI]
  | x :: r, p => by
    have ih := zkv r (p ++ [x]); simp only [List.append_assoc, List.singleton_append, List.length_append, List.length_singleton] at ih; simp only [idxS, Bool.and_eq_true, ih, decide_eq_true_eq, zz1, List.map_cons, nodupI, List.mem_cons, forall_eq_or_imp, Bool.not_eq_true', List.any_map, List.any_eq_false, Function.comp_apply, beq_iff_eq, List.mem_append, List.not_mem_nil, or_false]; constructor
    · rintro ⟨⟨h1, h2⟩, h3, h4⟩
      refine ⟨⟨⟨h1, h2⟩, fun y hy => ⟨(h3 y hy).1, fun f hf => (h3 y hy).2 f (Or.inl hf)⟩⟩, fun y hy e => (h3 y hy).2 x (Or.inr rfl) e.symm, h4⟩
    · rintro ⟨⟨⟨h1, h2⟩, h3⟩, h4, h5⟩
      refine ⟨⟨h1, h2⟩, fun y hy => ⟨(h3 y hy).1, ?_⟩, h5⟩
      rintro f (hf | rfl)
      · exact (h3 y hy).2 f hf
      · exact fun e => h4 y hy e.symm
theorem z110 (l : List Fld) : idxS l 0 l = (l.all rgtS && nodupI (l.map Fld.id)) := by
  rw [Bool.eq_iff_iff]; have := zkv l []; simp only [List.nil_append, List.length_nil] at this; rw [this]; simp
theorem zvw (f : Frm) (hl : f.fields.length ≤ 211106232532992) : ∀ (r : List Fld) (i : Nat), f.fields.drop i = r →
    ltbl E0 30 0 4 [iV i] [[iV f.id, fldsV f.fields]] = some (if idxS f.fields i r then (1, [], [[iV f.id, fldsV f.fields]]) else (0, [.bool false], [])) := by
  intro r
  induction r with
  | nil =>
    intro i hr
    have h : f.fields.length ≤ i := by simpa using hr
    refine zk4 _ _ ?_
    have : ¬ ((i : Int) < f.fields.length) := by omega
    simp [zcv, this, idxS]
  | cons x r ih =>
    intro i hr; obtain ⟨hlt, hget, hr2⟩ := zl hr
    have h2 : (i : Int) < f.fields.length := by omega
    have e1 := zh (i := i) (by omega)
    have h := ih (i + 1) hr2; have c := zd4 x; have c2 := c_yAt f x.id hl; refine zk4 _ _ ?_; simp only [zcv, zb, List.length_map, h2, decide_true, cond_true, z9, Int.natCast_nonneg, nthE, Int.toNat_natCast, List.getElem?_map, hget, Option.map_some, u_asA, u_asC, u_asI, u_asB, u_asN, za, c, c2, Option.bind_some, e1, h, idxS]
    by_cases hg : rgtS x = true
    · by_cases ha : atS f.fields x.id = i
      · simp [hg, ha]
      · simp [hg, ha]
    · have hg : rgtS x = false := by simpa using hg
      simp [hg]
theorem zof (f : Frm) (h : f.fields.length ≤ 211106232532992) : tbl E0 30 [frmV f] [] = some ([.bool (fineS f)], []) :=
  zy9 f (by
    have e := zvw f h f.fields 0 rfl; simp only [Int.natCast_zero, z110] at e; have c := zz0 f h; simp only [znz, z9, cond_true, zk, zb, List.length_map, za, c, Option.bind_some, u_asC, u_asI, u_asB, u_asL, u_asN, ze, e]; unfold fineS
    by_cases a1 : f.id < 0
    · have : ¬ (0 ≤ f.id) := by omega
      simp [a1, this]
    · by_cases a2 : f.id > 200
      · have : ¬ (f.id ≤ 200) := by omega
        simp [a1, a2, this]
      · by_cases a3 : (f.fields.length : Int) < 1
        · have : ¬ (1 ≤ f.fields.length) := by omega
          simp [a1, a2, a3, this]
        · by_cases a4 : (f.fields.length : Int) > 8
          · have : ¬ (f.fields.length ≤ 8) := by omega
            simp [a1, a2, a3, a4, this]
          · have b1 : 0 ≤ f.id ∧ f.id ≤ 200 := by omega
            have b2 : 1 ≤ f.fields.length ∧ f.fields.length ≤ 8 := by omega
            simp only [a1, a2, a3, a4, b1, b2, decide_true, decide_false, cond_false, Option.bind_some, Tok.untok_tok, Bool.true_and, and_self]
            cases f.fields.all rgtS <;> cases nodupI (f.fields.map Fld.id) <;> simp [c])
end Go.Proofs.YtjkjhgfiaodgmaaGreat.V
namespace Go.Proofs.YtjkjhgfiaodgmaaGreat.V
open Go
theorem bor (b : Bool) : b = true ∨ b = false := by cases b <;> simp
def Sml (s : Sch) : Prop := s.forms.length ≤ 211106232532992 ∧ ∀ f ∈ s.forms, f.fields.length ≤ 211106232532992
theorem z11 {α : Type} {l r : List α} {i : Nat} {a : α} (h : l.drop i = a :: r) : a ∈ l := List.mem_of_mem_drop (h ▸ List.mem_cons_self : a ∈ l.drop i)
theorem zs3 (l : List Frm) (hl : l.length ≤ 211106232532992) (hf : ∀ f ∈ l, f.fields.length ≤ 211106232532992) : ∀ (r : List Frm) (i : Nat) (last : Int), l.drop i = r →
    ltbl E0 11 0 5 [iV last, frmsV l, iV l.length, iV i] [] = some (if risingS last r then (1, [], []) else (0, [.bool false], [])) := by
  intro r
  induction r with
  | nil =>
    intro i last hr
    have h : l.length ≤ i := by simpa using hr
    refine zgw _ _ _ _ ?_
    have : ¬ ((i : Int) < l.length) := by omega
    simp [z9w, this, risingS]
  | cons f r ih =>
    intro i last hr; obtain ⟨hlt, hget, hr2⟩ := zl hr
    have h2 : (i : Int) < l.length := by omega
    have e1 := zh (i := i) (by omega)
    have h := ih (i + 1) f.id hr2; have c := zoe f (hf f (z11 hr)); refine zgw _ _ _ _ ?_; simp only [z9w, h2, decide_true, cond_true, z9, Int.natCast_nonneg, nthE, Int.toNat_natCast, List.getElem?_map, hget, Option.map_some, u_asA, u_asC, u_asI, u_asB, u_asL, u_asN, za, zk, c, Option.bind_some, e1, h, risingS]
    by_cases a : f.id ≤ last
    · have : ¬ (last < f.id) := by omega
      rcases bor (fineS f) with hb | hb <;> simp [hb, a, this]
    · have b : last < f.id := by omega
      rcases bor (fineS f) with hb | hb <;> simp [hb, a, b]
theorem z61 (s : Sch) (h : Sml s) : tbl E0 11 [schV s] [] = some ([.bool (schS s)], []) :=
  zv0 s (by
    have e := zs3 s.forms h.1 h.2 s.forms 0 (-1) rfl; simp only [Int.natCast_zero] at e; simp only [zjx, z9, cond_true, zk, zb, List.length_map, Option.bind_some, u_asC, u_asI, u_asB, u_asN, ze, e]; unfold schS
    by_cases a1 : s.ver < 1
    · have : ¬ (1 ≤ s.ver) := by omega
      simp [a1, this]
    · by_cases a2 : s.ver > 65535
      · have : ¬ (s.ver ≤ 65535) := by omega
        simp [a1, a2, this]
      · by_cases a4 : (s.forms.length : Int) > 8
        · have : ¬ (s.forms.length ≤ 8) := by omega
          simp [a1, a2, a4, this]
        · have b1 : 1 ≤ s.ver ∧ s.ver ≤ 65535 := by omega
          have b2 : s.forms.length ≤ 8 := by omega
          simp only [a1, a2, a4, b1, b2, decide_true, decide_false, cond_false, Option.bind_some, Tok.untok_tok, Bool.true_and, and_self]
          rcases bor (risingS (-1) s.forms) with hb | hb <;> simp [hb])
def riseS (l : List Frm) : Nat → List Frm → Bool
  | _, [] => true
  | i, f :: r => fineS f && (i == 0 || (match l[i - 1]? with | some g => decide (g.id < f.id) | none => false)) && riseS l (i + 1) r
theorem zkw : ∀ (r : List Frm) (p : List Frm) (g : Frm), riseS (p ++ g :: r) (p.length + 1) r = risingS g.id r
  | [], p, g => rfl
  | f :: r, p, g => by
    have ih := zkw r (p ++ [g]) f; simp only [List.append_assoc, List.singleton_append, List.length_append, List.length_singleton] at ih; simp [riseS, risingS, ih]
theorem zz2 (l : List Frm) : riseS l 0 l = risingS (-1) l := by
  cases l with
  | nil => rfl
  | cons f r =>
    have h := zkw r [] f; simp only [List.nil_append, List.length_nil, Nat.zero_add] at h; simp only [riseS, h, risingS, beq_self_eq_true, Bool.true_or, Bool.and_true, Nat.zero_add]
    by_cases hf : fineS f = true
    · have : -1 < f.id := by
        unfold fineS at hf; simp only [Bool.and_eq_true, decide_eq_true_eq] at hf; omega
      simp [this]
    · have hf : fineS f = false := by simpa using hf
      simp [hf]
theorem zq7 (s : Sch) (hs : Sml s) : ∀ (r : List Frm) (i : Nat), s.forms.drop i = r →
    ltbl E0 14 0 4 [iV i] [[iV s.ver, frmsV s.forms]] = some (if riseS s.forms i r then (1, [], []) else (0, [.bool false], [])) := by
  have hl := hs.1; intro r
  induction r with
  | nil =>
    intro i hr
    have h : s.forms.length ≤ i := by simpa using hr
    refine zed _ _ ?_
    have : ¬ ((i : Int) < s.forms.length) := by omega
    simp [z5i, this, riseS]
  | cons f r ih =>
    intro i hr; obtain ⟨hlt, hget, hr2⟩ := zl hr
    have h2 : (i : Int) < s.forms.length := by omega
    have e1 := zh (i := i) (by omega)
    have h := ih (i + 1) hr2; have c := zof f (hs.2 f (z11 hr)); refine zed _ _ ?_
    by_cases i0 : i = 0
    · subst i0
      simp only [Int.natCast_zero] at h2; simp only [z5i, zb, List.length_map, Int.natCast_zero, h2, decide_true, cond_true, z9, Int.natCast_nonneg, nthE, Int.toNat_natCast, Int.toNat_zero, Int.le_refl, List.getElem?_map, hget, Option.map_some, u_asA, u_asC, u_asI, u_asB, u_asL, u_asN, za, c, Option.bind_some, riseS]; simp only [Int.natCast_zero] at e1
      rcases bor (fineS f) with hb | hb
      · simp only [Int.zero_add, Nat.zero_add] at e1 h
        simp [hb]; rw [e1]; exact h
      · simp [hb]
    · have g0 : (i : Int) > 0 := by omega
      have g1 : IntKind.i64.wrap ((i : Int) - 1) = ((i - 1 : Nat) : Int) := by rw [wrap_i64 _ (by omega) (by omega)]; omega
      have g2 : s.forms[i - 1]? = some (s.forms[i - 1]'(by omega)) := List.getElem?_eq_getElem _
      simp only [z5i, zb, List.length_map, h2, decide_true, cond_true, z9, Int.natCast_nonneg, nthE, Int.toNat_natCast, List.getElem?_map, hget, Option.map_some, u_asA, u_asC, u_asI, u_asB, u_asL, u_asN, za, c, Option.bind_some, riseS, g0, g1, g2, e1, h, beq_f i0, Bool.false_or]
      rcases bor (fineS f) with hb | hb
      rotate_left
      · simp [hb]
      · by_cases a : (s.forms[i - 1]'(by omega)).id ≥ f.id
        · have b : ¬ ((s.forms[i - 1]'(by omega)).id < f.id) := by omega
          simp [hb, a, b]
        · have b : (s.forms[i - 1]'(by omega)).id < f.id := by omega
          simp [hb, a, b]
theorem z5b (s : Sch) (h : Sml s) : tbl E0 14 [schV s] [] = some ([.bool (schS s)], []) :=
  zrm s (by
    have e := zq7 s h s.forms 0 rfl; simp only [Int.natCast_zero, zz2] at e; simp only [zgu, z9, cond_true, zk, zb, List.length_map, Option.bind_some, u_asC, u_asI, u_asB, u_asN, ze, e]; unfold schS
    by_cases a1 : s.ver < 1
    · have : ¬ (1 ≤ s.ver) := by omega
      simp [a1, this]
    · by_cases a2 : s.ver > 65535
      · have : ¬ (s.ver ≤ 65535) := by omega
        simp [a1, a2, this]
      · by_cases a4 : (s.forms.length : Int) > 8
        · have : ¬ (s.forms.length ≤ 8) := by omega
          simp [a1, a2, a4, this]
        · have b1 : 1 ≤ s.ver ∧ s.ver ≤ 65535 := by omega
          have b2 : s.forms.length ≤ 8 := by omega
          simp only [a1, a2, a4, b1, b2, decide_true, decide_false, cond_false, Option.bind_some, Tok.untok_tok, Bool.true_and, and_self]
          rcases bor (risingS (-1) s.forms) with hb | hb <;> simp [hb])
end Go.Proofs.YtjkjhgfiaodgmaaGreat.V
namespace Go.Proofs.YtjkjhgfiaodgmaaGreat.V
open Go
def big (f : Frm) : Bool := decide (40 < f.fields.length)
def greatS (s : Sch) : Bool := (s.forms.take 41).any big || decide (40 < s.forms.length)
theorem z111 {s : Sch} (h : greatS s = false) : Sml s := by
  unfold greatS at h; simp only [Bool.or_eq_false_iff, decide_eq_false_iff_not, List.any_eq_false, big, decide_eq_true_eq] at h
  refine ⟨by omega, fun f hf => ?_⟩
  have := h.1 f (by rw [List.take_of_length_le (by omega)]; exact hf)
  omega
theorem zvx (s : Sch) (id : Int) (hs : Sml s) : ∀ (r : List Frm) (i : Nat), s.forms.drop i = r →
    ltbl E0 51 0 2 [iV id, iV i] [[iV s.ver, frmsV s.forms]] = some (fromS (fun f : Frm => f.id == id) i r) := by
  have hl := hs.1; intro r
  induction r with
  | nil =>
    intro i hr
    have h : s.forms.length ≤ i := by simpa using hr
    refine zk6 _ _ _ ?_
    have : ¬ ((i : Int) < s.forms.length) := by omega
    simp [zcx, this, zag]
  | cons x r ih =>
    intro i hr; obtain ⟨hlt, hget, hr2⟩ := zl hr
    have h2 : (i : Int) < s.forms.length := by omega
    have e1 := zh (i := i) (by omega)
    have h := ih (i + 1) hr2; refine zk6 _ _ _ ?_; rw [z8e]; simp only [zcx, zb, List.length_map, h2, decide_true, cond_true, z9, Int.natCast_nonneg, nthE, Int.toNat_natCast, List.getElem?_map, hget, Option.map_some, u_asA, u_asC, u_asI, u_asB, u_asL, u_asN, e1, h]
    cases x.id == id <;> rfl
def findS (l : List Frm) (id : Int) : Int := firstS (fun f : Frm => f.id == id) l
theorem z2m (s : Sch) (id : Int) (h : Sml s) : tbl E0 51 [schV s, iV id] [] = some ([iV (findS s.forms id)], []) :=
  zyb s id (by
    have e := zvx s id h s.forms 0 rfl; simp only [Int.natCast_zero] at e; simp only [zo0, z9, cond_true, ze, e, Option.bind_some, fromS, findS, firstS]
    cases s.forms.findIdx? (fun f : Frm => f.id == id) <;> simp)
theorem zvy (l : List Frm) (id : Int) (hl : l.length ≤ 211106232532992) : ∀ (r : List Frm) (i : Nat), l.drop i = r →
    ltbl E0 90 0 2 [iV id, frmsV l, iV l.length, iV i] [[iV 0, fldsV []]] = some (match r.find? (fun f : Frm => f.id == id) with | some f => (0, [.bool true], [[iV f.id, fldsV f.fields]]) | none => (1, [], [[iV 0, fldsV []]])) := by
  intro r
  induction r with
  | nil =>
    intro i hr
    have h : l.length ≤ i := by simpa using hr
    refine zk5 l ⟨0, []⟩ id _ _ ?_
    have : ¬ ((i : Int) < l.length) := by omega
    simp [zcw, this]
  | cons x r ih =>
    intro i hr; obtain ⟨hlt, hget, hr2⟩ := zl hr
    have h2 : (i : Int) < l.length := by omega
    have e1 := zh (i := i) (by omega)
    have h := ih (i + 1) hr2; refine zk5 l ⟨0, []⟩ id _ _ ?_; rw [List.find?_cons]; simp only [zcw, h2, decide_true, cond_true, z9, Int.natCast_nonneg, nthE, Int.toNat_natCast, List.getElem?_map, hget, Option.map_some, u_asA, u_asC, u_asI, u_asB, u_asL, u_asN, e1, h]
    rcases bor (x.id == id) with hb | hb <;> simp only [hb, cond_true, cond_false]
def formS (l : List Frm) (id : Int) : Option Frm := l.find? (fun f : Frm => f.id == id)
theorem zog (s : Sch) (id : Int) (h : Sml s) : tbl E0 90 [schV s, iV id] [] = some (match formS s.forms id with | some f => [frmV f, .bool true] | none => [frmV ⟨0, []⟩, .bool false], []) :=
  zya s id (by
    have e := zvy s.forms id h.1 s.forms 0 rfl; unfold formS
    cases hf : s.forms.find? (fun f : Frm => f.id == id) with
    | none =>
      rw [hf] at e; simp only [fldsV, frmsV, List.map_nil, Int.natCast_zero] at e; simp [zfv, e]
    | some f =>
      rw [hf] at e; simp only [fldsV, frmsV, List.map_nil, Int.natCast_zero] at e; simp [zfv, e])
theorem zhc (l : List Frm) (id : Int) : (∃ j f, formS l id = some f ∧ findS l id = (j : Nat) ∧ l[j]? = some f) ∨ (formS l id = none ∧ findS l id = -1) := by
  unfold formS findS firstS
  cases h : l.findIdx? (fun f : Frm => f.id == id) with
  | none =>
    right; refine ⟨?_, rfl⟩; rw [List.findIdx?_eq_none_iff] at h; rw [List.find?_eq_none]; intro x hx; simp [h x hx]
  | some j =>
    left; obtain ⟨hj, h1, h2⟩ := List.findIdx?_eq_some_iff_getElem.1 h; refine ⟨j, l[j], ?_, rfl, List.getElem?_eq_getElem hj⟩; rw [List.find?_eq_some_iff_getElem]
    exact ⟨h1, j, hj, rfl, fun k hk => by simpa using h2 k hk⟩
theorem z7l (a b : Fld) : (a.id == b.id && (a.kind == b.kind && (a.lo == b.lo && (a.hi == b.hi && (a.most == b.most && true))))) = decide (a = b) := by
  rw [Bool.eq_iff_iff]
  cases a; cases b
  simp
theorem zs4 (a b : Frm) : decide (a = b) = (decide (a.id = b.id) && decide (a.fields = b.fields)) := by
  rw [Bool.eq_iff_iff]
  cases a; cases b
  simp
theorem zs5 (a b : Sch) : decide (a = b) = (decide (a.ver = b.ver) && decide (a.forms = b.forms)) := by
  rw [Bool.eq_iff_iff]
  cases a; cases b
  simp
theorem zkx (a b : Frm) (hl : a.fields.length ≤ 211106232532992) (hab : a.fields.length = b.fields.length) : ∀ (r r' : List Fld) (i : Nat), a.fields.drop i = r → b.fields.drop i = r' →
    ltbl E0 35 0 4 [iV i] [[iV a.id, fldsV a.fields], [iV b.id, fldsV b.fields]] = some (if r = r' then (1, [], []) else (0, [.bool false], [])) := by
  intro r
  induction r with
  | nil =>
    intro r' i hr hr'
    have h : a.fields.length ≤ i := by simpa using hr
    have : r' = [] := by rw [← hr']; simp; omega
    subst this; refine za0 _ _ _ ?_
    have : ¬ ((i : Int) < a.fields.length) := by omega
    simp [z5z, this]
  | cons x r ih =>
    intro r' i hr hr'; obtain ⟨hlt, hget, hr2⟩ := zl hr
    cases r' with
    | nil => simp at hr'; omega
    | cons y r' =>
      obtain ⟨_, hget', hr2'⟩ := zl hr'
      have h2 : (i : Int) < a.fields.length := by omega
      have e1 := zh (i := i) (by omega)
      have h := ih r' (i + 1) hr2 hr2'; refine za0 _ _ _ ?_; simp only [z5z, zb, List.length_map, h2, decide_true, cond_true, z9, Int.natCast_nonneg, nthE, Int.toNat_natCast, List.getElem?_map, hget, hget', Option.map_some, u_asA, u_asC, u_asI, u_asB, u_asL, u_asN, e1, h, z7l]
      by_cases e : x = y
      · simp [e]
      · simp [e]
theorem zmy (a b : Frm) (h : a.fields.length ≤ 211106232532992) : tbl E0 35 [frmV a, frmV b] [] = some ([.bool (decide (a = b))], []) :=
  zmt a b (by
    rw [zs4]; simp only [zc2, z9, cond_true, zk, zb, List.length_map, ze]
    by_cases i0 : a.id = b.id
    · rw [show (a.id != b.id) = false by simp [i0], cond_false]
      by_cases hab : a.fields.length = b.fields.length
      · have e := zkx a b h hab a.fields b.fields 0 rfl rfl
        simp only [Int.natCast_zero] at e
        rw [show ((a.fields.length : Int) != (b.fields.length : Int)) = false by rw [hab]; simp]
        simp only [Option.bind_some, Tok.untok_tok, cond_false, e]
        by_cases e2 : a.fields = b.fields <;> simp [i0, e2]
      · have : ¬ (a.fields = b.fields) := fun e => hab (by rw [e])
        rw [show ((a.fields.length : Int) != (b.fields.length : Int)) = true from bne_t (by omega)]
        simp [i0, this]
    · simp [i0])
theorem zs6 (a b : List Fld) (hl : a.length ≤ 211106232532992) (hab : a.length = b.length) : ∀ (r r' : List Fld) (i : Nat), a.drop i = r → b.drop i = r' →
    ltbl E0 29 0 4 [fldsV a, fldsV b, iV a.length, iV i] [] = some (if r = r' then (1, [], []) else (0, [.bool false], [])) := by
  intro r
  induction r with
  | nil =>
    intro r' i hr hr'
    have h : a.length ≤ i := by simpa using hr
    have : r' = [] := by rw [← hr']; simp; omega
    subst this; refine zgx _ _ _ _ ?_
    have : ¬ ((i : Int) < a.length) := by omega
    simp [z9x, this]
  | cons x r ih =>
    intro r' i hr hr'; obtain ⟨hlt, hget, hr2⟩ := zl hr
    cases r' with
    | nil => simp at hr'; omega
    | cons y r' =>
      obtain ⟨_, hget', hr2'⟩ := zl hr'
      have h2 : (i : Int) < a.length := by omega
      have e1 := zh (i := i) (by omega)
      have h := ih r' (i + 1) hr2 hr2'; refine zgx _ _ _ _ ?_; simp only [z9x, zb, List.length_map, h2, decide_true, cond_true, z9, Int.natCast_nonneg, nthE, Int.toNat_natCast, List.getElem?_map, hget, hget', Option.map_some, u_asA, u_asC, u_asI, u_asB, u_asL, u_asN, e1, h, z7l]
      by_cases e : x = y
      · simp [e]
      · simp [e]
theorem zky (a b : List Fld) (h : a.length ≤ 211106232532992) : tbl E0 29 [fldsV a, fldsV b] [] = some ([.bool (decide (a = b))], []) :=
  zv2 a b (by
    simp only [zjz, zb, List.length_map, ze]
    by_cases hab : a.length = b.length
    · have e := zs6 a b h hab a b 0 rfl rfl
      simp only [Int.natCast_zero] at e
      have h' : ((a.length : Int) != (b.length : Int)) = false := by rw [hab]; simp
      rw [h', cond_false, e]
      by_cases e2 : a = b <;> simp [e2]
    · have : ¬ (a = b) := fun e => hab (by rw [e])
      have h' : ((a.length : Int) != (b.length : Int)) = true := bne_t (by omega)
      rw [h']; simp [this])
theorem zvz (a b : Frm) (h : a.fields.length ≤ 211106232532992) : tbl E0 28 [frmV a, frmV b] [] = some ([.bool (decide (a = b))], []) :=
  zv1 a b (by
    have c := zky a.fields b.fields h; rw [zs4]; simp only [zjy, z9, cond_true, zk, za, c, Option.bind_some, u_asC, u_asB, u_asN]
    by_cases i0 : a.id = b.id <;> simp [i0])
theorem zkz (a b : List Frm) (hl : a.length ≤ 211106232532992) (hf : ∀ f ∈ a, f.fields.length ≤ 211106232532992) (hab : a.length = b.length) : ∀ (r r' : List Frm) (i : Nat), a.drop i = r → b.drop i = r' →
    ltbl E0 27 0 4 [frmsV b, .clo 28 [], frmsV a, iV a.length, iV i] [] = some (if r = r' then (1, [], []) else (0, [.bool false], [])) := by
  intro r
  induction r with
  | nil =>
    intro r' i hr hr'
    have h : a.length ≤ i := by simpa using hr
    have : r' = [] := by rw [← hr']; simp; omega
    subst this; refine za1 _ _ _ _ ?_
    have : ¬ ((i : Int) < a.length) := by omega
    simp [z60, this]
  | cons x r ih =>
    intro r' i hr hr'; obtain ⟨hlt, hget, hr2⟩ := zl hr
    cases r' with
    | nil => simp at hr'; omega
    | cons y r' =>
      obtain ⟨_, hget', hr2'⟩ := zl hr'
      have h2 : (i : Int) < a.length := by omega
      have e1 := zh (i := i) (by omega)
      have h := ih r' (i + 1) hr2 hr2'; have c := zvz x y (hf x (z11 hr)); refine za1 _ _ _ _ ?_; simp only [z60, zb, List.length_map, h2, decide_true, cond_true, z9, Int.natCast_nonneg, nthE, Int.toNat_natCast, List.getElem?_map, hget, hget', Option.map_some, u_asA, u_asC, u_asI, u_asB, u_asL, u_asN, za, c, Option.bind_some, e1, h]
      by_cases e : x = y
      · simp [e]
      · simp [e]
theorem zmz (a b : List Frm) (h : a.length ≤ 211106232532992) (hf : ∀ f ∈ a, f.fields.length ≤ 211106232532992) : tbl E0 27 [frmsV a, frmsV b, .clo 28 []] [] = some ([.bool (decide (a = b))], []) :=
  zmu a b (by
    simp only [zc3, zb, List.length_map, ze]
    by_cases hab : a.length = b.length
    · have e := zkz a b h hf hab a b 0 rfl rfl
      simp only [Int.natCast_zero] at e
      have h' : ((a.length : Int) != (b.length : Int)) = false := by rw [hab]; simp
      rw [h', cond_false, e]
      by_cases e2 : a = b <;> simp [e2]
    · have : ¬ (a = b) := fun e => hab (by rw [e])
      have h' : ((a.length : Int) != (b.length : Int)) = true := bne_t (by omega)
      rw [h']; simp [this])
theorem zoh (a b : Sch) (h : Sml a) : tbl E0 13 [schV a, schV b] [] = some ([.bool (decide (a = b))], []) :=
  zyc a b (by
    have c := zmz a.forms b.forms h.1 h.2; rw [zs5]; simp only [zo1, z9, cond_true, zk, za, c, Option.bind_some, u_asC, u_asB, u_asN]
    by_cases i0 : a.ver = b.ver <;> simp [i0])
theorem zw0 (a b : Sch) (hs : Sml a) (hab : a.forms.length = b.forms.length) : ∀ (r r' : List Frm) (i : Nat), a.forms.drop i = r → b.forms.drop i = r' →
    ltbl E0 19 0 4 [iV i] [[iV a.ver, frmsV a.forms], [iV b.ver, frmsV b.forms]] = some (if r = r' then (1, [], []) else (0, [.bool false], [])) := by
  have hl := hs.1; intro r
  induction r with
  | nil =>
    intro r' i hr hr'
    have h : a.forms.length ≤ i := by simpa using hr
    have : r' = [] := by rw [← hr']; simp; omega
    subst this; refine zk7 _ _ _ ?_
    have : ¬ ((i : Int) < a.forms.length) := by omega
    simp [zcy, this]
  | cons x r ih =>
    intro r' i hr hr'; obtain ⟨hlt, hget, hr2⟩ := zl hr
    cases r' with
    | nil => simp at hr'; omega
    | cons y r' =>
      obtain ⟨_, hget', hr2'⟩ := zl hr'
      have h2 : (i : Int) < a.forms.length := by omega
      have e1 := zh (i := i) (by omega)
      have h := ih r' (i + 1) hr2 hr2'; have c := zmy x y (hs.2 x (z11 hr)); refine zk7 _ _ _ ?_; simp only [zcy, zb, List.length_map, h2, decide_true, cond_true, z9, Int.natCast_nonneg, nthE, Int.toNat_natCast, List.getElem?_map, hget, hget', Option.map_some, u_asA, u_asC, u_asI, u_asB, u_asL, u_asN, za, c, Option.bind_some, e1, h]
      by_cases e : x = y
      · simp [e]
      · simp [e]
theorem zoi (a b : Sch) (h : Sml a) : tbl E0 19 [schV a, schV b] [] = some ([.bool (decide (a = b))], []) :=
  zyd a b (by
    rw [zs5]; simp only [zo2, z9, cond_true, zk, zb, List.length_map, ze]
    by_cases i0 : a.ver = b.ver
    · rw [show (a.ver != b.ver) = false by simp [i0], cond_false]
      by_cases hab : a.forms.length = b.forms.length
      · have e := zw0 a b h hab a.forms b.forms 0 rfl rfl
        simp only [Int.natCast_zero] at e
        rw [show ((a.forms.length : Int) != (b.forms.length : Int)) = false by rw [hab]; simp]
        simp only [Option.bind_some, Tok.untok_tok, cond_false, e]
        by_cases e2 : a.forms = b.forms <;> simp [i0, e2]
      · have : ¬ (a.forms = b.forms) := fun e => hab (by rw [e])
        rw [show ((a.forms.length : Int) != (b.forms.length : Int)) = true from bne_t (by omega)]
        simp [i0, this]
    · simp [i0])
end Go.Proofs.YtjkjhgfiaodgmaaGreat.V
namespace Go.Proofs.YtjkjhgfiaodgmaaGreat.V
open Go
end Go.Proofs.YtjkjhgfiaodgmaaGreat.V
namespace Go.Proofs.YtjkjhgfiaodgmaaGreat.V
open Go
def fldB (f : Fld) : List UInt8 := cnt f.id.toNat ++ cnt f.kind.toNat ++ (if f.kind = 1 then cnt (zz f.lo) ++ cnt (zz f.hi) else if f.kind = 3 ∨ f.kind = 4 then cnt f.most.toNat else [])
def fldsB (l : List Fld) : List UInt8 := (l.map fldB).flatten
def frmB (f : Frm) : List UInt8 := cnt f.id.toNat ++ cnt f.fields.length ++ fldsB f.fields
def frmsB (l : List Frm) : List UInt8 := (l.map frmB).flatten
def schB (s : Sch) : List UInt8 := cnt s.ver.toNat ++ cnt s.forms.length ++ frmsB s.forms
theorem z38 (f : Frm) : fineS f = true ↔ (0 ≤ f.id ∧ f.id ≤ 200) ∧ (1 ≤ f.fields.length ∧ f.fields.length ≤ 8) ∧ longS f.fields ≤ 64 ∧ (∀ x ∈ f.fields, rgtS x = true) ∧ nodupI (f.fields.map Fld.id) = true := by
  unfold fineS; simp only [Bool.and_eq_true, decide_eq_true_eq, List.all_eq_true, and_assoc]
theorem z30 : ∀ (l : List Frm) (n : Int), risingS n l = true → ∀ f ∈ l, fineS f = true
  | [], n, _, f, hf => by cases hf
  | g :: l, n, h, f, hf => by
    simp only [risingS, Bool.and_eq_true] at h
    rcases List.mem_cons.1 hf with rfl | hf
    · exact h.1.1
    · exact z30 l _ h.2 f hf
theorem z8f (s : Sch) : schS s = true ↔ (1 ≤ s.ver ∧ s.ver ≤ 65535) ∧ s.forms.length ≤ 8 ∧ risingS (-1) s.forms = true := by
  unfold schS; simp only [Bool.and_eq_true, decide_eq_true_eq, and_assoc]
def FldsOK (l : List Fld) : Prop := ∀ f ∈ l, f.ok ∧ rgtS f = true
end Go.Proofs.YtjkjhgfiaodgmaaGreat.V
namespace Go.Proofs.YtjkjhgfiaodgmaaGreat.V
open Go
end Go.Proofs.YtjkjhgfiaodgmaaGreat.V
namespace Go.Proofs.YtjkjhgfiaodgmaaGreat.V
open Go
def Stp.ok (x : Stp) : Prop := i64 x.op ∧ i64 x.form ∧ i64 x.field ∧ i64 x.place ∧ i64 x.to ∧ i64 x.a ∧ i64 x.b ∧ x.f.ok ∧ i64 x.n ∧ (∀ n ∈ x.t, i64 n) ∧ ∀ f ∈ x.fields, f.ok
def Stp.sml (x : Stp) : Prop := x.t.length ≤ 211106232532992 ∧ x.fields.length ≤ 211106232532992
def opsL : List Int := [1, 2, 3, 4, 5, 6, 7, 8, 9, 10, 21, 22, 23, 24, 25, 26, 27, 28, 29, 30]
def usesS (op : Int) : List Int :=
  if op = 1 then [0, 2, 6, 7] else if op = 22 then [0, 2, 6, 7] else if op = 2 then [0, 1, 7] else if op = 3 then [0, 1, 6] else if op = 23 then [0, 1, 6]
  else if op = 4 then [0, 1, 5] else if op = 24 then [0, 1, 5, 6] else if op = 5 then [0, 1, 4, 8] else if op = 25 then [0, 1, 8] else if op = 6 then [0, 1, 4, 3]
  else if op = 26 then [0, 1, 4, 3, 6] else if op = 7 then [0, 1, 2] else if op = 27 then [0, 1, 2] else if op = 8 then [0, 1, 3] else if op = 28 then [0, 1, 3]
  else if op = 9 then [0, 9] else if op = 30 then [0, 9] else if op = 10 then [0] else if op = 29 then [0] else if op = 21 then [0, 1] else []
def hasS (op p : Int) : Bool := (usesS op).contains p
def inS (n lo hi : Int) : Bool := decide (lo ≤ n) && decide (n ≤ hi)
def longestS (f : Fld) : Int := if f.kind = 4 then f.most else 0
def hasV (f : Fld) (n : Int) (s : List UInt8) : Bool := rgtS f && (inS n (loS f) (hiS f) && decide ((s.length : Int) ≤ longestS f))
def apartS (l : List Int) (below : Int) : Bool := (l.all fun n => inS n 0 (below - 1)) && nodupI l && decide (1 ≤ l.length ∧ l.length ≤ 64)
def fitsS (x : Stp) (p : Int) : Bool :=
  if p = 0 then inS x.form 0 200 else if p = 1 then inS x.field 0 255 else if p = 2 then inS x.place 0 8 else if p = 3 then inS x.to 0 255 && x.to != x.field
  else if p = 4 then (if x.op = 5 then inS x.a 1 1000 else inS x.a 2 1048576)
  else if p = 5 then inS x.a (-1048576) 1048576 && (x.a != 0 && inS x.b (-1099511627776) 1099511627776)
  else if p = 6 then rgtS x.f && (x.op == 1 || (x.op == 22 || x.f.id == x.field))
  else if p = 7 then (if x.op = 2 then inS x.n (-1099511627776) 1099511627776 && decide ((x.s.length : Int) ≤ 32) else hasV x.f x.n x.s)
  else if p = 8 then apartS x.t (if x.op = 5 then x.a else 1000)
  else fineS ⟨x.form, x.fields⟩
def fld0 : Fld := ⟨0, 0, 0, 0, 0⟩
def onlyS (x : Stp) : Stp :=
  ⟨x.op, if hasS x.op 0 then x.form else 0, if hasS x.op 1 then x.field else 0, if hasS x.op 2 then x.place else 0, if hasS x.op 3 then x.to else 0,
    if hasS x.op 4 || hasS x.op 5 then x.a else 0, if hasS x.op 5 then x.b else 0, if hasS x.op 6 then x.f else fld0, if hasS x.op 7 then x.n else 0, if hasS x.op 7 then x.s else [],
    if hasS x.op 8 then x.t else [], if hasS x.op 9 then x.fields else []⟩
def tRightS (x : Stp) : Bool := (usesS x.op).all (fitsS x) && (!(usesS x.op).isEmpty && decide (x = onlyS x))
def zeroS (x : Stp) : Bool :=
  (hasS x.op 1 || x.field == 0) && ((hasS x.op 2 || x.place == 0) && ((hasS x.op 3 || x.to == 0) && ((hasS x.op 4 || (hasS x.op 5 || x.a == 0)) && ((hasS x.op 5 || x.b == 0) &&
    ((hasS x.op 6 || decide (x.f = fld0)) && ((hasS x.op 7 || (x.n == 0 && x.s == [])) && ((hasS x.op 8 || x.t.isEmpty) && (hasS x.op 9 || x.fields.isEmpty))))))))
def numbersS (x : Stp) : Bool :=
  if x.op = 4 ∨ x.op = 24 then inS x.a (-1048576) 1048576 && (x.a != 0 && inS x.b (-1099511627776) 1099511627776)
  else if x.op = 6 ∨ x.op = 26 then inS x.a 2 1048576
  else if x.op = 5 then inS x.a 1 1000 && apartS x.t x.a
  else if x.op = 25 then apartS x.t 1000 else true
def ytRightS (x : Stp) : Bool :=
  !(usesS x.op).isEmpty && (zeroS x && (inS x.form 0 200 && (inS x.field 0 255 && (inS x.place 0 8 && (inS x.to 0 255 && (numbersS x &&
    (!(hasS x.op 3 && x.to == x.field) && (!(hasS x.op 6 && !rgtS x.f) && (!(hasS x.op 6 && (hasS x.op 1 && x.f.id != x.field)) &&
      (!(x.op == 2 && !(inS x.n (-1099511627776) 1099511627776 && decide ((x.s.length : Int) ≤ 32))) && (!(hasS x.op 2 && (hasS x.op 7 && !hasV x.f x.n x.s)) && (!hasS x.op 9 || fineS ⟨x.form, x.fields⟩))))))))))))
theorem op_in (op : Int) : op ∈ opsL ∨ (op ∉ opsL ∧ usesS op = []) := by
  by_cases h : op ∈ opsL
  · exact .inl h
  · refine .inr ⟨h, ?_⟩
    simp only [opsL, List.mem_cons, List.not_mem_nil, or_false, not_or] at h; obtain ⟨h1, h2, h3, h4, h5, h6, h7, h8, h9, h10, h11, h12, h13, h14, h15, h16, h17, h18, h19, h20⟩ := h; simp only [usesS, h1, h2, h3, h4, h5, h6, h7, h8, h9, h10, h11, h12, h13, h14, h15, h16, h17, h18, h19, h20, if_false]
theorem z4j {p : Int → Prop} (op : Int) (h : ∀ o ∈ opsL, p o) (h0 : op ∉ opsL → usesS op = [] → p op) : p op := by
  rcases op_in op with h1 | ⟨h1, h2⟩
  · exact h op h1
  · exact h0 h1 h2
theorem zhd (x : Stp) : tRightS x = ytRightS x := by
  obtain ⟨op, form, field, place, to, a, b, f, n, s, t, fields⟩ := x; refine z4j (p := fun op => tRightS ⟨op, form, field, place, to, a, b, f, n, s, t, fields⟩ = ytRightS ⟨op, form, field, place, to, a, b, f, n, s, t, fields⟩) op ?_ ?_
  · intro o ho
    simp only [opsL, List.mem_cons, List.not_mem_nil, or_false] at ho
    rcases ho with rfl | rfl | rfl | rfl | rfl | rfl | rfl | rfl | rfl | rfl | rfl | rfl | rfl | rfl | rfl | rfl | rfl | rfl | rfl | rfl <;>
    · simp [tRightS, ytRightS, usesS, fitsS, onlyS, zeroS, numbersS, hasS, inS, List.isEmpty_iff]
      rw [Bool.eq_iff_iff]; simp only [Bool.and_eq_true, Bool.or_eq_true, decide_eq_true_eq, Bool.not_eq_true', beq_iff_eq, bne_iff_ne, ne_eq]
      constructor <;> (intro h; simp_all) <;> (try omega) <;> grind
  · intro _ h
    simp [tRightS, ytRightS, h]
theorem zer (x : Stp) : ∀ (i : Nat) (p : Int), (usesS x.op)[i]? = some p → p = 8 → ((usesS x.op).take i).all (fitsS x) = true → 1 ≤ (if x.op = 5 then x.a else 1000) ∧ (if x.op = 5 then x.a else 1000) ≤ 1000 := by
  intro i p h1 h2 h3
  by_cases ho : x.op = 5
  · subst h2
    have hu : usesS x.op = [0, 1, 4, 8] := by rw [ho]; rfl
    rw [hu] at h1 h3
    match i, h1, h3 with
    | 3, _, h3 =>
      simp [fitsS, ho, inS] at h3; simp only [ho, if_true]; omega
    | 0, h1, _ => simp at h1
    | 1, h1, _ => simp at h1
    | 2, h1, _ => simp at h1
    | n + 4, h1, _ => simp at h1
  · simp [ho]
theorem z62 (op : Int) : (usesS op).length ≤ 5 := by
  refine z4j (p := fun op => (usesS op).length ≤ 5) op ?_ ?_
  · decide
  · intro _ h; simp [h]
end Go.Proofs.YtjkjhgfiaodgmaaGreat.V
namespace Go.Proofs.YtjkjhgfiaodgmaaGreat.V
open Go
def fldW (f : Fld) : List UInt8 := cnt f.id.toNat ++ (cnt f.kind.toNat ++ (cnt (zz f.lo) ++ (cnt (zz f.hi) ++ cnt f.most.toNat)))
def fldsW (l : List Fld) : List UInt8 := (l.map fldW).flatten
def intsB (l : List Int) : List UInt8 := (l.map fun n => cnt n.toNat).flatten
def prtB (x : Stp) (p : Int) : List UInt8 :=
  if p = 0 then cnt x.form.toNat else if p = 1 then cnt x.field.toNat else if p = 2 then cnt x.place.toNat else if p = 3 then cnt x.to.toNat
  else if p = 4 then cnt x.a.toNat else if p = 5 then cnt (zz x.a) ++ cnt (zz x.b) else if p = 6 then fldW x.f
  else if p = 7 then cnt (zz x.n) ++ (cnt x.s.length ++ x.s) else if p = 8 then cnt x.t.length ++ intsB x.t
  else cnt x.fields.length ++ fldsW x.fields
def prtsB (x : Stp) (l : List Int) : List UInt8 := (l.map (prtB x)).flatten
def stpB (x : Stp) : List UInt8 := cnt x.op.toNat ++ prtsB x (usesS x.op)
def stpsB (l : List Stp) : List UInt8 := (l.map stpB).flatten
def lstB (l : List Stp) : List UInt8 := cnt l.length ++ stpsB l
theorem z4v {p : Int} (hp : 0 ≤ p ∧ p ≤ 9) : p = 0 ∨ p = 1 ∨ p = 2 ∨ p = 3 ∨ p = 4 ∨ p = 5 ∨ p = 6 ∨ p = 7 ∨ p = 8 ∨ p = 9 := by omega
theorem zan {x : Stp} (h : fineS ⟨x.form, x.fields⟩ = true) : x.fields.length ≤ 8 ∧ ∀ f ∈ x.fields, rgtS f = true := by
  obtain ⟨_, h2, _, h4, _⟩ := (z38 _).1 h; exact ⟨h2.2, h4⟩
theorem z115 {f : Fld} {n : Int} {s : List UInt8} (h : hasV f n s = true) : s.length ≤ 32 := by
  simp only [hasV, Bool.and_eq_true, decide_eq_true_eq] at h; obtain ⟨g1, _, g2⟩ := h; unfold longestS at g2
  by_cases k : f.kind = 4
  · rw [if_pos k] at g2
    rw [zej k] at g1; simp only [Bool.and_eq_true, decide_eq_true_eq] at g1; omega
  · rw [if_neg k] at g2
    omega
def Fits (x : Stp) (p : Int) : Prop := (0 ≤ p ∧ p ≤ 9) ∧ fitsS x p = true ∧ (p = 8 → (if x.op = 5 then x.a else 1000) ≤ 1000)
theorem zl1 {x : Stp} (h : fitsS x 7 = true) : x.s.length ≤ 32 := by
  simp [fitsS, inS] at h
  split at h
  · omega
  · exact z115 h
theorem zl2 {x : Stp} (h : Fits x 8) : (∀ n ∈ x.t, 0 ≤ n ∧ n ≤ 1000) ∧ x.t.length ≤ 64 := by
  obtain ⟨_, h2, h3⟩ := h; simp [fitsS, apartS, inS] at h2; have := h3 rfl
  exact ⟨fun n hn => by have := h2.1.1 n hn; omega, h2.2.2⟩
theorem zsb {x : Stp} (h : fitsS x 9 = true) : x.fields.length ≤ 8 ∧ ∀ f ∈ x.fields, rgtS f = true := by
  simp [fitsS] at h; exact zan h
theorem zw4 (op : Int) : ∀ p ∈ usesS op, 0 ≤ p ∧ p ≤ 9 := by
  refine z4j (p := fun op => ∀ p ∈ usesS op, 0 ≤ p ∧ p ≤ 9) op ?_ ?_
  · decide
  · intro _ h; simp [h]
theorem z2x {x : Stp} (h : tRightS x = true) : (∀ p ∈ usesS x.op, Fits x p) ∧ x.op ∈ opsL ∧ x = onlyS x := by
  simp only [tRightS, Bool.and_eq_true, List.all_eq_true, decide_eq_true_eq, Bool.not_eq_true', List.isEmpty_eq_false_iff] at h; obtain ⟨h1, h2, h3⟩ := h; refine ⟨fun p hp => ⟨zw4 _ p hp, h1 p hp, fun h8 => ?_⟩, ?_, h3⟩
  · obtain ⟨i, hi, e⟩ := List.mem_iff_getElem.1 hp
    exact (zer x i p (by rw [← e]; exact List.getElem?_eq_getElem hi) h8 (List.all_eq_true.2 fun q hq => h1 q (List.mem_of_mem_take hq))).2
  · rcases op_in x.op with h | ⟨_, h⟩
    · exact h
    · exact absurd h h2
theorem zg1 {op : Int} (h : op ∈ opsL) : 1 ≤ op ∧ op ≤ 30 := by
  revert op; decide
end Go.Proofs.YtjkjhgfiaodgmaaGreat.V
namespace Go.Proofs.YtjkjhgfiaodgmaaGreat.V
open Go
open AV (int lst agg str bool ref clo)
open List (map)
def zaq {α : Type} (A : Alg α) (b : List AV) (x : Fld) (e : Int) (kc : List AV → List (Nat × List AV) → α) : α :=
  A.call 59 [ref 0 0, iV x.id] [(0, [lst (.own (.E 0 0)) 1 b, iV e])] fun l0 l1 => asC A l1 fun x2 l3 => bif (x2.1.beq 0) then (asC A x2.2 fun v4 l5 => asOwn A 1 v4 fun x6 l7 => aI A l5 fun n10 l9 => asN A l9 (asN A l0 (asN A l3 (A.call 59 [ref 0 0, iV x.kind] [(0, [lst (.own (.E 0 0)) 1 l7, iV n10])] fun l11 l12 => asC A l12 fun x13 l14 => bif (x13.1.beq 0) then (asC A x13.2 fun v15 l16 => asOwn A 1 v15 fun x17 l18 => aI A l16 fun n21 l20 => asN A l20 (asN A l11 (asN A l14 (A.call 107 [ref 0 0, iV x.lo] [(0, [lst (.own (.E 0 0)) 1 l18, iV n21])] fun l22 l23 => asC A l23 fun x24 l25 => bif (x24.1.beq 0) then (asC A x24.2 fun v26 l27 => asOwn A 1 v26 fun x28 l29 => aI A l27 fun n32 l31 => asN A l31 (asN A l22 (asN A l25 (A.call 107 [ref 0 0, iV x.hi] [(0, [lst (.own (.E 0 0)) 1 l29, iV n32])] fun l33 l34 => asC A l34 fun x35 l36 => bif (x35.1.beq 0) then (asC A x35.2 fun v37 l38 => asOwn A 1 v37 fun x39 l40 => aI A l38 fun n43 l42 => asN A l42 (asN A l33 (asN A l36 (A.call 59 [ref 0 0, iV x.most] [(0, [lst (.own (.E 0 0)) 1 l40, iV n43])] fun l44 l45 => asC A l45 fun x46 l47 => bif (x46.1.beq 0) then (asC A x46.2 fun v48 l49 => asOwn A 1 v48 fun x50 l51 => aI A l49 fun n54 l53 => asN A l53 (asN A l44 (asN A l47 (kc [] [(0, [lst (.own (.E 0 0)) 1 l51, iV n54])])))) else A.fail)))) else A.fail)))) else A.fail)))) else A.fail)))) else A.fail
def zl5 {α : Type} (A : Alg α) (b : List AV) (x : Stp) (p : Int) (e : Int) (kc : List AV → List (Nat × List AV) → α) : α :=
  bif (p == (0 : Int)) then (A.call 59 [ref 0 0, iV x.form] [(0, [lst (.own (.E 0 0)) 1 b, iV e])] fun l0 l1 => asC A l1 fun x2 l3 => bif (x2.1.beq 0) then (asC A x2.2 fun v4 l5 => asOwn A 1 v4 fun x6 l7 => aI A l5 fun n10 l9 => asN A l9 (asN A l0 (asN A l3 (kc [] [(0, [lst (.own (.E 0 0)) 1 l7, iV n10])])))) else A.fail) else (bif (p == (1 : Int)) then (A.call 59 [ref 0 0, iV x.field] [(0, [lst (.own (.E 0 0)) 1 b, iV e])] fun l11 l12 => asC A l12 fun x13 l14 => bif (x13.1.beq 0) then (asC A x13.2 fun v15 l16 => asOwn A 1 v15 fun x17 l18 => aI A l16 fun n21 l20 => asN A l20 (asN A l11 (asN A l14 (kc [] [(0, [lst (.own (.E 0 0)) 1 l18, iV n21])])))) else A.fail) else (bif (p == (2 : Int)) then (A.call 59 [ref 0 0, iV x.place] [(0, [lst (.own (.E 0 0)) 1 b, iV e])] fun l22 l23 => asC A l23 fun x24 l25 => bif (x24.1.beq 0) then (asC A x24.2 fun v26 l27 => asOwn A 1 v26 fun x28 l29 => aI A l27 fun n32 l31 => asN A l31 (asN A l22 (asN A l25 (kc [] [(0, [lst (.own (.E 0 0)) 1 l29, iV n32])])))) else A.fail) else (bif (p == (3 : Int)) then (A.call 59 [ref 0 0, iV x.to] [(0, [lst (.own (.E 0 0)) 1 b, iV e])] fun l33 l34 => asC A l34 fun x35 l36 => bif (x35.1.beq 0) then (asC A x35.2 fun v37 l38 => asOwn A 1 v37 fun x39 l40 => aI A l38 fun n43 l42 => asN A l42 (asN A l33 (asN A l36 (kc [] [(0, [lst (.own (.E 0 0)) 1 l40, iV n43])])))) else A.fail) else (bif (p == (4 : Int)) then (A.call 59 [ref 0 0, iV x.a] [(0, [lst (.own (.E 0 0)) 1 b, iV e])] fun l44 l45 => asC A l45 fun x46 l47 => bif (x46.1.beq 0) then (asC A x46.2 fun v48 l49 => asOwn A 1 v48 fun x50 l51 => aI A l49 fun n54 l53 => asN A l53 (asN A l44 (asN A l47 (kc [] [(0, [lst (.own (.E 0 0)) 1 l51, iV n54])])))) else A.fail) else (bif (p == (5 : Int)) then (A.call 107 [ref 0 0, iV x.a] [(0, [lst (.own (.E 0 0)) 1 b, iV e])] fun l55 l56 => asC A l56 fun x57 l58 => bif (x57.1.beq 0) then (asC A x57.2 fun v59 l60 => asOwn A 1 v59 fun x61 l62 => aI A l60 fun n65 l64 => asN A l64 (asN A l55 (asN A l58 (A.call 107 [ref 0 0, iV x.b] [(0, [lst (.own (.E 0 0)) 1 l62, iV n65])] fun l66 l67 => asC A l67 fun x68 l69 => bif (x68.1.beq 0) then (asC A x68.2 fun v70 l71 => asOwn A 1 v70 fun x72 l73 => aI A l71 fun n76 l75 => asN A l75 (asN A l66 (asN A l69 (kc [] [(0, [lst (.own (.E 0 0)) 1 l73, iV n76])])))) else A.fail)))) else A.fail) else (bif (p == (6 : Int)) then (A.call 108 [ref 0 0, agg [iV x.f.id, iV x.f.kind, iV x.f.lo, iV x.f.hi, iV x.f.most]] [(0, [lst (.own (.E 0 0)) 1 b, iV e])] fun l77 l78 => asC A l78 fun x79 l80 => bif (x79.1.beq 0) then (asC A x79.2 fun v81 l82 => asOwn A 1 v81 fun x83 l84 => aI A l82 fun n87 l86 => asN A l86 (asN A l77 (asN A l80 (kc [] [(0, [lst (.own (.E 0 0)) 1 l84, iV n87])])))) else A.fail) else (bif (p == (7 : Int)) then (A.call 107 [ref 0 0, iV x.n] [(0, [lst (.own (.E 0 0)) 1 b, iV e])] fun l88 l89 => asC A l89 fun x90 l91 => bif (x90.1.beq 0) then (asC A x90.2 fun v92 l93 => asOwn A 1 v92 fun x94 l95 => aI A l93 fun n98 l97 => asN A l97 (asN A l88 (asN A l91 (A.call 60 [ref 0 0, str x.s] [(0, [lst (.own (.E 0 0)) 1 l95, iV n98])] fun l99 l100 => asC A l100 fun x101 l102 => bif (x101.1.beq 0) then (asC A x101.2 fun v103 l104 => asOwn A 1 v103 fun x105 l106 => aI A l104 fun n109 l108 => asN A l108 (asN A l99 (asN A l102 (kc [] [(0, [lst (.own (.E 0 0)) 1 l106, iV n109])])))) else A.fail)))) else A.fail) else (bif (p == (8 : Int)) then (A.call 59 [ref 0 0, iV (↑(map (fun n => iV n) x.t).length : Int)] [(0, [lst (.own (.E 0 0)) 1 b, iV e])] fun l110 l111 => asC A l111 fun x112 l113 => bif (x112.1.beq 0) then (asC A x112.2 fun v114 l115 => asOwn A 1 v114 fun x116 l117 => aI A l115 fun n120 l119 => asN A l119 (asN A l110 (asN A l113 (A.loop 23 [lst .ro 1 (map (fun n => iV n) x.t), iV (↑(map (fun n => iV n) x.t).length : Int), iV 0] [[lst (.own (.O 0 0)) 1 l117, iV n120]] fun j121 l122 l123 => bif (j121.beq 2) then (asN A l122 (asC A l123 fun l124 l125 => asC A l124 fun v126 l127 => asOwn A 1 v126 fun x128 l129 => bif (x128.beq (.O (0 : Nat) (0 : Nat))) then (aI A l127 fun n132 l131 => asN A l131 (asN A l125 (kc [] [(0, [lst (.own (.E 0 0)) 1 l129, iV n132])]))) else A.fail)) else A.fail)))) else A.fail) else (bif (p == (9 : Int)) then (A.call 59 [ref 0 0, iV (↑(map fldV x.fields).length : Int)] [(0, [lst (.own (.E 0 0)) 1 b, iV e])] fun l133 l134 => asC A l134 fun x135 l136 => bif (x135.1.beq 0) then (asC A x135.2 fun v137 l138 => asOwn A 1 v137 fun x139 l140 => aI A l138 fun n143 l142 => asN A l142 (asN A l133 (asN A l136 (A.loop 30 [lst .ro 5 (map fldV x.fields), iV (↑(map fldV x.fields).length : Int), iV 0] [[lst (.own (.O 0 0)) 1 l140, iV n143]] fun j144 l145 l146 => bif (j144.beq 4) then (asN A l145 (asC A l146 fun l147 l148 => asC A l147 fun v149 l150 => asOwn A 1 v149 fun x151 l152 => bif (x151.beq (.O (0 : Nat) (0 : Nat))) then (aI A l150 fun n155 l154 => asN A l154 (asN A l148 (kc [] [(0, [lst (.own (.E 0 0)) 1 l152, iV n155])]))) else A.fail)) else A.fail)))) else A.fail) else (kc [] [(0, [lst (.own (.E 0 0)) 1 b, iV e])]))))))))))
def zar {α : Type} (A : Alg α) (l : List Int) (b : List AV) (m : Int) (i : Int) (e : Int) (next : List AV → List (List AV) → α) (kc : Nat → List AV → List (List AV) → α) : α :=
  bif (decide (i < m)) then (A.chk (decide ((0 : Int) ≤ i)) (nthE A (map (fun n => iV n) l) i.toNat fun v0 => asI A .i64 v0 fun n1 => A.call 59 [ref 0 0, iV n1] [(0, [lst (.own (.E 0 0)) 1 b, iV e])] fun l2 l3 => asC A l3 fun x4 l5 => bif (x4.1.beq 0) then (asC A x4.2 fun v6 l7 => asOwn A 1 v6 fun x8 l9 => aI A l7 fun n12 l11 => asN A l11 (asN A l2 (asN A l5 (next [lst .ro 1 (map (fun n => iV n) l), iV m, iV (IntKind.i64.wrap (i + (1 : Int)))] [[lst (.own (.O 0 0)) 1 l9, iV n12]])))) else A.fail)) else (kc 2 [] [[lst (.own (.O 0 0)) 1 b, iV e]])
def zas {α : Type} (A : Alg α) (l : List Fld) (b : List AV) (m : Int) (i : Int) (e : Int) (next : List AV → List (List AV) → α) (kc : Nat → List AV → List (List AV) → α) : α :=
  bif (decide (i < m)) then (A.chk (decide ((0 : Int) ≤ i)) (nthE A (map fldV l) i.toNat fun v0 => asA A v0 fun l1 => aI A l1 fun n4 l3 => aI A l3 fun n7 l6 => aI A l6 fun n10 l9 => aI A l9 fun n13 l12 => aI A l12 fun n16 l15 => asN A l15 (A.call 108 [ref 0 0, agg [iV n4, iV n7, iV n10, iV n13, iV n16]] [(0, [lst (.own (.E 0 0)) 1 b, iV e])] fun l17 l18 => asC A l18 fun x19 l20 => bif (x19.1.beq 0) then (asC A x19.2 fun v21 l22 => asOwn A 1 v21 fun x23 l24 => aI A l22 fun n27 l26 => asN A l26 (asN A l17 (asN A l20 (next [lst .ro 5 (map fldV l), iV m, iV (IntKind.i64.wrap (i + (1 : Int)))] [[lst (.own (.O 0 0)) 1 l24, iV n27]])))) else A.fail))) else (kc 4 [] [[lst (.own (.O 0 0)) 1 b, iV e]])
def z8h {α : Type} (A : Alg α) (l : List Stp) (kc : List AV → List (Nat × List AV) → α) : α :=
  bif (decide ((↑(map stpV l).length : Int) > (40 : Int))) then (kc [lst .ro 1 [], iV 7] []) else (A.call 58 [] [] fun l0 l1 => asC A l0 fun v2 l3 => asRef0 A v2 fun o4 => bif (o4.beq 64) then (asC A l1 fun x5 l6 => bif (x5.1.beq 64) then (asC A x5.2 fun v7 l8 => asOwn A 1 v7 fun x9 l10 => aI A l8 fun n13 l12 => asN A l12 (asN A l3 (asN A l6 (A.call 59 [ref 0 0, iV (↑(map stpV l).length : Int)] [(0, [lst (.own (.E 0 0)) 1 l10, iV n13])] fun l14 l15 => asC A l15 fun x16 l17 => bif (x16.1.beq 0) then (asC A x16.2 fun v18 l19 => asOwn A 1 v18 fun x20 l21 => aI A l19 fun n24 l23 => asN A l23 (asN A l14 (asN A l17 (A.loop 6 [lst .ro 16 (map stpV l), iV (↑(map stpV l).length : Int), iV 0] [[lst (.own (.O 1012 0)) 1 l21, iV n24]] fun j25 l26 l27 => bif (j25.beq 0) then (aL A 1 l26 fun l30 l29 => aI A l29 fun n33 l32 => asN A l32 (asN A l27 (kc [lst .ro 1 l30, iV n33] []))) else (bif (j25.beq 1) then (asN A l26 (asC A l27 fun l34 l35 => asC A l34 fun v36 l37 => asOwn A 1 v36 fun x38 l39 => bif (x38.beq (.O (1012 : Nat) (0 : Nat))) then (aI A l37 fun n42 l41 => asN A l41 (asN A l35 (A.call 61 [ref 0 0] [(0, [lst (.own (.E 0 0)) 1 l39, iV n42])] fun l43 l44 => asC A l44 fun x45 l46 => bif (x45.1.beq 0) then (asC A x45.2 fun v47 l48 => asOwn A 1 v47 fun x49 l50 => aI A l48 fun n53 l52 => asN A l52 (aL A 1 l43 fun l56 l55 => aI A l55 fun n59 l58 => asN A l58 (asN A l46 (kc [lst .ro 1 l56, iV n59] [])))) else A.fail))) else A.fail)) else A.fail))))) else A.fail)))) else A.fail) else A.fail)
def zat {α : Type} (A : Alg α) (l : List Stp) (b : List AV) (m : Int) (i : Int) (e : Int) (next : List AV → List (List AV) → α) (kc : Nat → List AV → List (List AV) → α) : α :=
  bif (decide (i < m)) then (A.chk (decide ((0 : Int) ≤ i)) (nthE A (map stpV l) i.toNat fun v0 => asA A v0 fun l1 => aI A l1 fun n4 l3 => aI A l3 fun n7 l6 => aI A l6 fun n10 l9 => aI A l9 fun n13 l12 => aI A l12 fun n16 l15 => aI A l15 fun n19 l18 => aI A l18 fun n22 l21 => aI A l21 fun n25 l24 => aI A l24 fun n28 l27 => aI A l27 fun n31 l30 => aI A l30 fun n34 l33 => aI A l33 fun n37 l36 => aI A l36 fun n40 l39 => aS A l39 fun l43 l42 => aL A 1 l42 fun l46 l45 => aL A 5 l45 fun l49 l48 => asN A l48 (A.callx 66 [agg [iV n4, iV n7, iV n10, iV n13, iV n16, iV n19, iV n22, iV n25, iV n28, iV n31, iV n34, iV n37, iV n40, str l43, lst .ro 1 l46, lst .ro 5 l49]] fun l50 => aB A l50 fun b53 l52 => asN A l52 (bif (!b53) then (kc 0 [lst .ro 1 [], iV 2] []) else (A.call 59 [ref 0 0, iV n4] [(0, [lst (.own (.E 0 0)) 1 b, iV e])] fun l54 l55 => asC A l55 fun x56 l57 => bif (x56.1.beq 0) then (asC A x56.2 fun v58 l59 => asOwn A 1 v58 fun x60 l61 => aI A l59 fun n64 l63 => asN A l63 (asN A l54 (asN A l57 (A.callx 83 [iV n4] fun l65 => aL A 1 l65 fun l68 l67 => asN A l67 (A.loop 12 [lst .ro 16 (map stpV l), iV m, iV i, lst .ro 1 l68, iV (↑l68.length : Int), iV 0] [[iV n4, iV n7, iV n10, iV n13, iV n16, iV n19, iV n22, iV n25, iV n28, iV n31, iV n34, iV n37, iV n40, str l43, lst .ro 1 l46, lst .ro 5 l49], [lst (.own (.O 1012 0)) 1 l61, iV n64]] fun j69 l70 l71 => bif (j69.beq 3) then (aL A 16 l70 fun l74 l73 => aI A l73 fun n77 l76 => aI A l76 fun n80 l79 => asN A l79 (asC A l71 fun l81 l82 => asC A l81 fun v83 l84 => asOwn A 1 v83 fun x85 l86 => bif (x85.beq (.O (1012 : Nat) (0 : Nat))) then (aI A l84 fun n89 l88 => asN A l88 (asN A l82 (next [lst .ro 16 l74, iV n77, iV (IntKind.i64.wrap (n80 + (1 : Int)))] [[lst (.own (.O 1012 0)) 1 l86, iV n89]]))) else A.fail)) else A.fail))))) else A.fail))))) else (kc 1 [] [[lst (.own (.O 1012 0)) 1 b, iV e]])
def zau {α : Type} (A : Alg α) (l : List Stp) (x : Stp) (u : List Int) (b : List AV) (m : Int) (i : Int) (n : Int) (k : Int) (e : Int) (next : List AV → List (List AV) → α) (kc : Nat → List AV → List (List AV) → α) : α :=
  bif (decide (k < n)) then (A.chk (decide ((0 : Int) ≤ k)) (nthE A (map (fun n => iV n) u) k.toNat fun v0 => asI A .i64 v0 fun n1 => A.call 84 [ref 0 0, agg [iV x.op, iV x.form, iV x.field, iV x.place, iV x.to, iV x.a, iV x.b, iV x.f.id, iV x.f.kind, iV x.f.lo, iV x.f.hi, iV x.f.most, iV x.n, str x.s, lst .ro 1 (map (fun n => iV n) x.t), lst .ro 5 (map fldV x.fields)], iV n1] [(0, [lst (.own (.E 0 0)) 1 b, iV e])] fun l2 l3 => asC A l3 fun x4 l5 => bif (x4.1.beq 0) then (asC A x4.2 fun v6 l7 => asOwn A 1 v6 fun x8 l9 => aI A l7 fun n12 l11 => asN A l11 (asN A l2 (asN A l5 (next [lst .ro 16 (map stpV l), iV m, iV i, lst .ro 1 (map (fun n => iV n) u), iV n, iV (IntKind.i64.wrap (k + (1 : Int)))] [[iV x.op, iV x.form, iV x.field, iV x.place, iV x.to, iV x.a, iV x.b, iV x.f.id, iV x.f.kind, iV x.f.lo, iV x.f.hi, iV x.f.most, iV x.n, str x.s, lst .ro 1 (map (fun n => iV n) x.t), lst .ro 5 (map fldV x.fields)], [lst (.own (.O 1012 0)) 1 l9, iV n12]])))) else A.fail)) else (kc 3 [lst .ro 16 (map stpV l), iV m, iV i] [[lst (.own (.O 1012 0)) 1 b, iV e]])
def z8i {α : Type} (A : Alg α) (l : List Stp) (kc : List AV → List (Nat × List AV) → α) : α :=
  bif (decide ((↑(map stpV l).length : Int) > (40 : Int))) then (kc [iV 7] []) else (A.loop 4 [lst .ro 16 (map stpV l), iV 0] [] fun j0 l1 l2 => bif (j0.beq 0) then (aI A l1 fun n5 l4 => asN A l4 (asN A l2 (kc [iV n5] []))) else (bif (j0.beq 1) then (asN A l1 (asN A l2 (kc [iV 0] []))) else A.fail))
def z76 {α : Type} (A : Alg α) (l : List Stp) (i : Int) (next : List AV → List (List AV) → α) (kc : Nat → List AV → List (List AV) → α) : α :=
  bif (decide (i < (↑(map stpV l).length : Int))) then (A.chk (decide ((0 : Int) ≤ i)) (nthE A (map stpV l) i.toNat fun v0 => asA A v0 fun l1 => aI A l1 fun n4 l3 => aI A l3 fun n7 l6 => aI A l6 fun n10 l9 => aI A l9 fun n13 l12 => aI A l12 fun n16 l15 => aI A l15 fun n19 l18 => aI A l18 fun n22 l21 => aI A l21 fun n25 l24 => aI A l24 fun n28 l27 => aI A l27 fun n31 l30 => aI A l30 fun n34 l33 => aI A l33 fun n37 l36 => aI A l36 fun n40 l39 => aS A l39 fun l43 l42 => aL A 1 l42 fun l46 l45 => aL A 5 l45 fun l49 l48 => asN A l48 (A.callx 47 [agg [iV n4, iV n7, iV n10, iV n13, iV n16, iV n19, iV n22, iV n25, iV n28, iV n31, iV n34, iV n37, iV n40, str l43, lst .ro 1 l46, lst .ro 5 l49]] fun l50 => aB A l50 fun b53 l52 => asN A l52 (bif (!b53) then (kc 0 [iV 2] []) else (next [lst .ro 16 (map stpV l), iV (IntKind.i64.wrap (i + (1 : Int)))] []))))) else (kc 1 [] [])
def z77 {α : Type} (A : Alg α) (x : List Stp) (y : List Stp) (kc : List AV → List (Nat × List AV) → α) : α :=
  bif ((↑(map stpV x).length : Int) != (↑(map stpV y).length : Int)) then (kc [bool false] []) else (A.loop 4 [lst .ro 16 (map stpV x), lst .ro 16 (map stpV y), iV 0] [] fun j0 l1 l2 => bif (j0.beq 0) then (aB A l1 fun b5 l4 => asN A l4 (asN A l2 (kc [bool b5] []))) else (bif (j0.beq 1) then (asN A l1 (asN A l2 (kc [bool true] []))) else A.fail))
def z63 {α : Type} (A : Alg α) (x : List Stp) (y : List Stp) (i : Int) (next : List AV → List (List AV) → α) (kc : Nat → List AV → List (List AV) → α) : α :=
  bif (decide (i < (↑(map stpV x).length : Int))) then (A.chk (decide ((0 : Int) ≤ i)) (nthE A (map stpV x) i.toNat fun v0 => asA A v0 fun l1 => aI A l1 fun n4 l3 => aI A l3 fun n7 l6 => aI A l6 fun n10 l9 => aI A l9 fun n13 l12 => aI A l12 fun n16 l15 => aI A l15 fun n19 l18 => aI A l18 fun n22 l21 => aI A l21 fun n25 l24 => aI A l24 fun n28 l27 => aI A l27 fun n31 l30 => aI A l30 fun n34 l33 => aI A l33 fun n37 l36 => aI A l36 fun n40 l39 => aS A l39 fun l43 l42 => aL A 1 l42 fun l46 l45 => aL A 5 l45 fun l49 l48 => asN A l48 (A.chk (decide ((0 : Int) ≤ i)) (nthE A (map stpV y) i.toNat fun v50 => asA A v50 fun l51 => aI A l51 fun n54 l53 => aI A l53 fun n57 l56 => aI A l56 fun n60 l59 => aI A l59 fun n63 l62 => aI A l62 fun n66 l65 => aI A l65 fun n69 l68 => aI A l68 fun n72 l71 => aI A l71 fun n75 l74 => aI A l74 fun n78 l77 => aI A l77 fun n81 l80 => aI A l80 fun n84 l83 => aI A l83 fun n87 l86 => aI A l86 fun n90 l89 => aS A l89 fun l93 l92 => aL A 1 l92 fun l96 l95 => aL A 5 l95 fun l99 l98 => asN A l98 (A.callx 20 [agg [iV n4, iV n7, iV n10, iV n13, iV n16, iV n19, iV n22, iV n25, iV n28, iV n31, iV n34, iV n37, iV n40, str l43, lst .ro 1 l46, lst .ro 5 l49], agg [iV n54, iV n57, iV n60, iV n63, iV n66, iV n69, iV n72, iV n75, iV n78, iV n81, iV n84, iV n87, iV n90, str l93, lst .ro 1 l96, lst .ro 5 l99]] fun l100 => aB A l100 fun b103 l102 => asN A l102 (bif (!b103) then (kc 0 [bool false] []) else (next [lst .ro 16 (map stpV x), lst .ro 16 (map stpV y), iV (IntKind.i64.wrap (i + (1 : Int)))] []))))))) else (kc 1 [] [])
theorem zl6 (b : List AV) (x : Fld) (e : Int) {r : CR} (h : zaq (OA (tbl E0) (ltbl E0 108 0)) b x e (fun r o => some (r, o)) = some r) : tbl E0 108 [.ref 0 0, fldV x] (penA b e) = some r :=
  tblF Tryz.func108 h
theorem zw8 (b : List AV) (x : Stp) (p e : Int) {r : CR} (h : zl5 (OA (tbl E0) (ltbl E0 84 0)) b x p e (fun r o => some (r, o)) = some r) : tbl E0 84 [.ref 0 0, stpV x, iV p] (penA b e) = some r :=
  tblF Tryz.func84 h
theorem zhe (l : List Int) (b : List AV) (m i e : Int) {r : LR} (h : zar (OA (tbl E0) (ltbl E0 84 0)) l b m i e (fun vs os => ltbl E0 84 0 23 vs os) (fun j vs os => some (j, vs, os)) = some r) : ltbl E0 84 0 23 [intsV l, iV m, iV i] [[.lst (.own (.O 0 0)) 1 b, iV e]] = some r :=
  ltblF Tryz.func84 h
theorem zhf (l : List Fld) (b : List AV) (m i e : Int) {r : LR} (h : zas (OA (tbl E0) (ltbl E0 84 0)) l b m i e (fun vs os => ltbl E0 84 0 30 vs os) (fun j vs os => some (j, vs, os)) = some r) : ltbl E0 84 0 30 [fldsV l, iV m, iV i] [[.lst (.own (.O 0 0)) 1 b, iV e]] = some r :=
  ltblF Tryz.func84 h
theorem zw9 (l : List Stp) {r : CR} (h : z8h (OA (tbl E0) (ltbl E0 57 0)) l (fun r o => some (r, o)) = some r) : tbl E0 57 [stpsV l] [] = some r :=
  tblF Tryz.func57 h
theorem zhg (l : List Stp) (b : List AV) (m i e : Int) {r : LR} (h : zat (OA (tbl E0) (ltbl E0 57 0)) l b m i e (fun vs os => ltbl E0 57 0 6 vs os) (fun j vs os => some (j, vs, os)) = some r) : ltbl E0 57 0 6 [stpsV l, iV m, iV i] [[.lst (.own (.O 1012 0)) 1 b, iV e]] = some r :=
  ltblF Tryz.func57 h
theorem zhh (l : List Stp) (x : Stp) (u : List Int) (b : List AV) (m i n k e : Int) {r : LR} (h : zau (OA (tbl E0) (ltbl E0 57 0)) l x u b m i n k e (fun vs os => ltbl E0 57 0 12 vs os) (fun j vs os => some (j, vs, os)) = some r) : ltbl E0 57 0 12 [stpsV l, iV m, iV i, intsV u, iV n, iV k] [stpC x, [.lst (.own (.O 1012 0)) 1 b, iV e]] = some r :=
  ltblF Tryz.func57 h
theorem zqd (l : List Stp) {r : CR} (h : z8i (OA (tbl E0) (ltbl E0 32 0)) l (fun r o => some (r, o)) = some r) : tbl E0 32 [stpsV l] [] = some r :=
  tblF Tryz.func32 h
theorem zc7 (l : List Stp) (i : Int) {r : LR} (h : z76 (OA (tbl E0) (ltbl E0 32 0)) l i (fun vs os => ltbl E0 32 0 4 vs os) (fun j vs os => some (j, vs, os)) = some r) : ltbl E0 32 0 4 [stpsV l, iV i] [] = some r :=
  ltblF Tryz.func32 h
theorem zn0 (x y : List Stp) {r : CR} (h : z77 (OA (tbl E0) (ltbl E0 8 0)) x y (fun r o => some (r, o)) = some r) : tbl E0 8 [stpsV x, stpsV y] [] = some r :=
  tblF Tryz.func8 h
theorem zav (x y : List Stp) (i : Int) {r : LR} (h : z63 (OA (tbl E0) (ltbl E0 8 0)) x y i (fun vs os => ltbl E0 8 0 4 vs os) (fun j vs os => some (j, vs, os)) = some r) : ltbl E0 8 0 4 [stpsV x, stpsV y, iV i] [] = some r :=
  ltblF Tryz.func8 h
end Go.Proofs.YtjkjhgfiaodgmaaGreat.V
namespace Go.Proofs.YtjkjhgfiaodgmaaGreat.V
open Go
open AV (int lst agg str bool ref clo)
open List (map)
end Go.Proofs.YtjkjhgfiaodgmaaGreat.V
