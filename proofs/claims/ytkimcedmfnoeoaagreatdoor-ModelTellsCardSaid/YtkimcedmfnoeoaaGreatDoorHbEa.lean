/- The law's own question lives(), call by call: what is told at each, by reckoning. -/
import Derived.Test.YtkimcedmfnoeoaaGreatDoorHpA
import Derived.Test.YtkimcedmfnoeoaaGreatDoorAmLives
set_option linter.unusedVariables false
set_option linter.unusedSimpArgs false
set_option maxRecDepth 1000000
namespace Go.AM.G.Lv
open Go Go.AM Go.AM.G
abbrev rp {α : Type} (n : Nat) (x : α) : List α := List.replicate n x
def r1 : V := .tup [.agg [.slice 2 0 64 64 true 1, .int .i64 4, .slice 29 0 1 1 false 1, .nils], .int .i64 0]
def d1 : Mem := rp 2 .dead ++ [.cells true (rp 64 [.int .u64 0])] ++ rp 26 .dead ++ [.cells true ([[.int .u64 1]])] ++ rp 2 .dead
def r2 : V := .tup [.agg [.slice 61 0 64 64 false 1, .int .i64 4, .slice 90 0 1 1 false 1, .slice 141 0 1 1 false 8], .int .u64 16, .int .i64 0]
def d2 : Mem := rp 61 .dead ++ [.cells true (rp 16 [.int .u64 0] ++ [[.int .u64 11889503016258109697]] ++ rp 47 [.int .u64 0])] ++ rp 28 .dead ++ [.cells true ([[.int .u64 3]])] ++ rp 50 .dead ++ [.cells true ([[.int .i64 1, .int .i64 1, .int .i64 2, .int .i64 8, .slice 150 0 1 1 false 1, .int .i64 8, .slice 158 0 1 1 false 1, .bool true]])] ++ rp 8 .dead ++ [.cells true ([[.int .u64 1]])] ++ rp 7 .dead ++ [.cells true ([[.int .u64 0]])] ++ rp 4 .dead
def r3 : V := .tup [.agg [.slice 237 0 64 64 false 1, .int .i64 4, .slice 243 0 1 1 false 1, .slice 245 0 1 1 false 8], .int .u64 18, .int .i64 0]
def d3 : Mem := rp 237 .dead ++ [.cells true (rp 16 [.int .u64 0] ++ [[.int .u64 11889503016258109697], [.int .u64 0], [.int .u64 11889503016258109440]] ++ rp 45 [.int .u64 0])] ++ rp 5 .dead ++ [.cells true ([[.int .u64 3]])] ++ rp 1 .dead ++ [.cells true ([[.int .i64 1, .int .i64 1, .int .i64 2, .int .i64 8, .slice 282 0 1 1 false 1, .int .i64 8, .slice 290 0 1 1 false 1, .bool true]])] ++ rp 36 .dead ++ [.cells true ([[.int .u64 3]])] ++ rp 7 .dead ++ [.cells true ([[.int .u64 0]])] ++ rp 4 .dead
def r4 : V := .tup [.agg [.slice 380 0 64 64 false 1, .int .i64 4, .slice 386 0 1 1 false 1, .slice 388 0 1 1 false 8], .int .u64 20, .int .i64 0]
def d4 : Mem := rp 380 .dead ++ [.cells true (rp 16 [.int .u64 0] ++ [[.int .u64 11889503016258109697], [.int .u64 0], [.int .u64 11889503016258109440], [.int .u64 0], [.int .u64 11889503016258109440]] ++ rp 43 [.int .u64 0])] ++ rp 5 .dead ++ [.cells true ([[.int .u64 3]])] ++ rp 1 .dead ++ [.cells true ([[.int .i64 1, .int .i64 1, .int .i64 2, .int .i64 8, .slice 425 0 1 1 false 1, .int .i64 8, .slice 433 0 1 1 false 1, .bool true]])] ++ rp 36 .dead ++ [.cells true ([[.int .u64 7]])] ++ rp 7 .dead ++ [.cells true ([[.int .u64 0]])] ++ rp 4 .dead
def r5 : V := .tup [.agg [.slice 532 0 64 64 false 1, .int .i64 4, .slice 538 0 1 1 false 1, .slice 540 0 1 1 false 8], .int .i64 0]
def d5 : Mem := rp 532 .dead ++ [.cells true (rp 16 [.int .u64 0] ++ [[.int .u64 11889503016258109697], [.int .u64 18], [.int .u64 11889503016258109440], [.int .u64 0], [.int .u64 11889503016258109440]] ++ rp 43 [.int .u64 0])] ++ rp 5 .dead ++ [.cells true ([[.int .u64 3]])] ++ rp 1 .dead ++ [.cells true ([[.int .i64 1, .int .i64 1, .int .i64 2, .int .i64 8, .slice 546 0 1 1 false 1, .int .i64 8, .slice 550 0 1 1 false 1, .bool true]])] ++ rp 5 .dead ++ [.cells true ([[.int .u64 7]])] ++ rp 3 .dead ++ [.cells true ([[.int .u64 0]])] ++ rp 18 .dead
def r6 : V := .tup [.slice 682 0 2 2 false 1, .int .i64 0]
def d6 : Mem := rp 532 .dead ++ [.cells true (rp 16 [.int .u64 0] ++ [[.int .u64 11889503016258109697], [.int .u64 18], [.int .u64 11889503016258109440], [.int .u64 0], [.int .u64 11889503016258109440]] ++ rp 43 [.int .u64 0])] ++ rp 5 .dead ++ [.cells true ([[.int .u64 3]])] ++ rp 1 .dead ++ [.cells true ([[.int .i64 1, .int .i64 1, .int .i64 2, .int .i64 8, .slice 546 0 1 1 false 1, .int .i64 8, .slice 550 0 1 1 false 1, .bool true]])] ++ rp 5 .dead ++ [.cells true ([[.int .u64 7]])] ++ rp 3 .dead ++ [.cells true ([[.int .u64 0]])] ++ rp 131 .dead ++ [.cells true ([[.int .u64 16], [.int .u64 18]])] ++ rp 8 .dead
def r7 : V := .tup [.agg [.slice 811 0 2 2 false 1, .slice 848 0 3 3 false 1, .slice 824 0 1 1 false 3, .slice 868 0 0 1 false 3], .int .i64 0]
def d7 : Mem := rp 532 .dead ++ [.cells true (rp 16 [.int .u64 0] ++ [[.int .u64 11889503016258109697], [.int .u64 18], [.int .u64 11889503016258109440], [.int .u64 0], [.int .u64 11889503016258109440]] ++ rp 43 [.int .u64 0])] ++ rp 5 .dead ++ [.cells true ([[.int .u64 3]])] ++ rp 1 .dead ++ [.cells true ([[.int .i64 1, .int .i64 1, .int .i64 2, .int .i64 8, .slice 546 0 1 1 false 1, .int .i64 8, .slice 550 0 1 1 false 1, .bool true]])] ++ rp 5 .dead ++ [.cells true ([[.int .u64 7]])] ++ rp 3 .dead ++ [.cells true ([[.int .u64 0]])] ++ rp 131 .dead ++ [.cells true ([[.int .u64 16], [.int .u64 18]])] ++ rp 128 .dead ++ [.cells true ([[.int .u64 16], [.int .u64 18]])] ++ rp 12 .dead ++ [.cells true ([[.int .u64 20, .int .u8 1, .int .u64 0]])] ++ rp 23 .dead ++ [.cells true ([[.int .u64 16], [.int .u64 18], [.int .u64 20]])] ++ rp 19 .dead ++ [.cells true ([[.int .u64 0, .int .u8 0, .int .u64 0]])] ++ rp 1 .dead
def r8 : V := .tup [.nils, .int .i64 10]
def d8 : Mem := rp 682 .dead ++ [.cells true ([[.int .u64 16], [.int .u64 18]])] ++ rp 128 .dead ++ [.cells true ([[.int .u64 16], [.int .u64 18]])] ++ rp 12 .dead ++ [.cells true ([[.int .u64 20, .int .u8 1, .int .u64 0]])] ++ rp 23 .dead ++ [.cells true ([[.int .u64 16], [.int .u64 18], [.int .u64 20]])] ++ rp 19 .dead ++ [.cells true ([[.int .u64 0, .int .u8 0, .int .u64 0]])] ++ rp 100 .dead
def h1 : V := .agg [.slice 2 0 64 64 true 1, .int .i64 4, .slice 29 0 1 1 false 1, .nils]
def h2 : V := .agg [.slice 61 0 64 64 false 1, .int .i64 4, .slice 90 0 1 1 false 1, .slice 141 0 1 1 false 8]
def h3 : V := .agg [.slice 237 0 64 64 false 1, .int .i64 4, .slice 243 0 1 1 false 1, .slice 245 0 1 1 false 8]
def h4 : V := .agg [.slice 380 0 64 64 false 1, .int .i64 4, .slice 386 0 1 1 false 1, .slice 388 0 1 1 false 8]
def h5 : V := .agg [.slice 532 0 64 64 false 1, .int .i64 4, .slice 538 0 1 1 false 1, .slice 540 0 1 1 false 8]
set_option maxHeartbeats 0 in
theorem s1 : stageB (callN (fun f => tab.lookup f) X0 300 n_heap_Make [.int .i64 4] []) r1 [] d1 = true := by kernel_rfl
set_option maxHeartbeats 0 in
theorem s2 : stageB (callN (fun f => tab.lookup f) X0 300 n_heap_New [h1, .agg [.int .i64 1, .int .u64 1], .bool false] (d1 ++ [.dead])) r2 (d1 ++ [.dead]) d2 = true := by kernel_rfl
set_option maxHeartbeats 0 in
theorem s3 : stageB (callN (fun f => tab.lookup f) X0 300 n_heap_New [h2, .agg [.int .i64 0, .int .u64 0], .bool false] d2) r3 d2 d3 = true := by kernel_rfl
set_option maxHeartbeats 0 in
theorem s4 : stageB (callN (fun f => tab.lookup f) X0 300 n_heap_New [h3, .agg [.int .i64 0, .int .u64 0], .bool false] d3) r4 d3 d4 = true := by kernel_rfl
set_option maxHeartbeats 0 in
theorem s5 : stageB (callN (fun f => tab.lookup f) X0 300 n_heap_Store [h4, .int .u64 16, .int .i64 0, .int .u64 18, .bool true] d4) r5 d4 d5 = true := by kernel_rfl
set_option maxHeartbeats 0 in
theorem s6 : stageB (callN (fun f => tab.lookup f) X0 300 n_model_Reach [h5, .slice 569 0 2 2 true 1, .agg [.nils]] (d5 ++ [.cells true [[.int .u64 0], [.int .u64 16]]])) r6 (d5 ++ [.cells true [[.int .u64 0], [.int .u64 16]]]) d6 = true := by kernel_rfl
set_option maxHeartbeats 0 in
theorem s7 : stageB (callN (fun f => tab.lookup f) X0 300 n_model_Fate [h5, .slice 691 0 1 1 true 1, .agg [.nils], .slice 692 0 1 1 true 3] (d6 ++ [.cells true [[.int .u64 16]]] ++ [.cells true [[.int .u64 20, .int .u8 1, .int .u64 0]]])) r7 (d6 ++ [.cells true [[.int .u64 16]]] ++ [.cells true [[.int .u64 20, .int .u8 1, .int .u64 0]]]) d7 = true := by kernel_rfl
set_option maxHeartbeats 0 in
theorem s8 : stageB (callN (fun f => tab.lookup f) X0 300 n_model_Reach [h5, .slice 871 0 1 1 true 1, .agg [.nils]] (d7 ++ [.dead] ++ [.cells true [[.int .u64 17]]])) r8 (d7 ++ [.dead] ++ [.cells true [[.int .u64 17]]]) d8 = true := by kernel_rfl
end Go.AM.G.Lv
