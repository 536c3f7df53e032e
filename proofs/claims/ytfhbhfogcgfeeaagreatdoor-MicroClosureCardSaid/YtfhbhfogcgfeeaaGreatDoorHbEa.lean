import Derived.Test.YtfhbhfogcgfeeaaGreatDoorHpA
import Derived.Test.YtfhbhfogcgfeeaaGreatDoorAmLives
set_option linter.unusedVariables false
set_option linter.unusedSimpArgs false
set_option maxRecDepth 1000000
namespace Go.AM.G.Lv
open Go Go.AM Go.AM.G
abbrev rp {α:Type}(n:Nat) (x:α):List α:=List.replicate n x
abbrev cat {α:Type}(l:List (List α)):List α:=l.flatten
noncomputable def r1:V:= .tup [.agg [.slice 2 0 48 48 true 1,.int .i64 3,.slice 29 0 1 1 false 1,.nils],.int .i64 0]
noncomputable def d1:Mem:=cat [rp 2 .dead,[.cells true (rp 48 [.int .u64 0])],rp 26 .dead,[.cells true ([[.int .u64 1]])],rp 2 .dead]
noncomputable def r2:V:= .tup [.agg [.slice 61 0 48 48 false 1,.int .i64 3,.slice 90 0 1 1 false 1,.slice 141 0 1 1 false 8],.int .u64 16,.int .i64 0]
noncomputable def d2:Mem:=cat [rp 61 .dead,[.cells true (cat [rp 16 [.int .u64 0],[[.int .u64 11889503016258109954]],rp 31 [.int .u64 0]])],rp 28 .dead,[.cells true ([[.int .u64 3]])],rp 50 .dead,[.cells true ([[.int .i64 1,.int .i64 1,.int .i64 4,.int .i64 4,.slice 150 0 1 1 false 1,.int .i64 4,.slice 158 0 1 1 false 1,.bool true]])],rp 8 .dead,[.cells true ([[.int .u64 1]])],rp 7 .dead,[.cells true ([[.int .u64 0]])],rp 4 .dead]
noncomputable def r3:V:= .tup [.agg [.slice 234 0 48 48 false 1,.int .i64 3,.slice 289 0 1 1 false 1,.slice 367 0 2 2 false 8],.int .u64 32,.int .i64 0]
noncomputable def d3:Mem:=cat [rp 234 .dead,[.cells true (cat [rp 16 [.int .u64 0],[[.int .u64 11889503016258109954]],rp 15 [.int .u64 0],[[.int .u64 11889503016258109440]],rp 15 [.int .u64 0]])],rp 54 .dead,[.cells true ([[.int .u64 7]])],rp 59 .dead,[.cells true ([[.int .u64 1]])],rp 3 .dead,[.cells true ([[.int .u64 0]])],rp 13 .dead,[.cells true ([[.int .i64 1,.int .i64 1,.int .i64 4,.int .i64 4,.slice 349 0 1 1 false 1,.int .i64 4,.slice 353 0 1 1 false 1,.bool true],[.int .i64 2,.int .i64 1,.int .i64 2,.int .i64 8,.slice 377 0 1 1 false 1,.int .i64 8,.slice 385 0 1 1 false 1,.bool true]])],rp 9 .dead,[.cells true ([[.int .u64 1]])],rp 7 .dead,[.cells true ([[.int .u64 0]])],rp 4 .dead]
noncomputable def r4:V:= .tup [.agg [.slice 503 0 48 48 false 1,.int .i64 3,.slice 509 0 1 1 false 1,.slice 511 0 2 2 false 8],.int .i64 0]
noncomputable def d4:Mem:=cat [rp 503 .dead,[.cells true (cat [rp 16 [.int .u64 0],[[.int .u64 11889503016258109954],[.int .u64 0],[.int .u64 32]],rp 13 [.int .u64 0],[[.int .u64 11889503016258109440]],rp 15 [.int .u64 0]])],rp 5 .dead,[.cells true ([[.int .u64 7]])],rp 1 .dead,[.cells true ([[.int .i64 1,.int .i64 1,.int .i64 4,.int .i64 4,.slice 517 0 1 1 false 1,.int .i64 4,.slice 521 0 1 1 false 1,.bool true],[.int .i64 2,.int .i64 1,.int .i64 2,.int .i64 8,.slice 527 0 1 1 false 1,.int .i64 8,.slice 531 0 1 1 false 1,.bool true]])],rp 5 .dead,[.cells true ([[.int .u64 1]])],rp 3 .dead,[.cells true ([[.int .u64 0]])],rp 5 .dead,[.cells true ([[.int .u64 1]])],rp 3 .dead,[.cells true ([[.int .u64 0]])],rp 18 .dead]
noncomputable def h1:V:= .agg [.slice 2 0 48 48 true 1,.int .i64 3,.slice 29 0 1 1 false 1,.nils]
noncomputable def h2:V:= .agg [.slice 61 0 48 48 false 1,.int .i64 3,.slice 90 0 1 1 false 1,.slice 141 0 1 1 false 8]
noncomputable def h3:V:= .agg [.slice 234 0 48 48 false 1,.int .i64 3,.slice 289 0 1 1 false 1,.slice 367 0 2 2 false 8]
noncomputable def h4:V:= .agg [.slice 503 0 48 48 false 1,.int .i64 3,.slice 509 0 1 1 false 1,.slice 511 0 2 2 false 8]
noncomputable def d5:Mem:=d4++rp 106 .dead
set_option maxHeartbeats 0 in
theorem s1:zgB (callN (fun f=>tab.lookup f) X0 300 zlp [.int .i64 3] ([])) r1 ([]) d1=true:=by kernel_rfl
set_option maxHeartbeats 0 in
theorem s2:zgB (callN (fun f=>tab.lookup f) X0 300 zgM [h1,.agg [.int .i64 2,.int .u64 2],.bool false] (d1++[.dead])) r2 (d1++[.dead]) d2=true:=by kernel_rfl
set_option maxHeartbeats 0 in
theorem s3:zgB (callN (fun f=>tab.lookup f) X0 300 zgM [h2,.agg [.int .i64 0,.int .u64 0],.bool false] (d2)) r3 (d2) d3=true:=by kernel_rfl
set_option maxHeartbeats 0 in
theorem s4:zgB (callN (fun f=>tab.lookup f) X0 300 zki [h3,.int .u64 16,.int .i64 1,.int .u64 32,.bool true] (d3)) r4 (d3) d4=true:=by kernel_rfl
set_option maxHeartbeats 0 in
theorem s5:zgB (callN (fun f=>tab.lookup f) X0 300 zgN [h4] d4) (.int .i64 0) d4 d5=true:=by kernel_rfl
end Go.AM.G.Lv
