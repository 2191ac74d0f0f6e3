/- The types of the translation: what a field's address, a field, a literal come to. Printed by a program (wip/gen/facts.py). -/
import Derived.Test.YtldagpopfebbbaaGreatDoorZA
import Derived.Test.YtldagpopfebbbaaGreatDoorProg
set_option linter.unusedVariables false
set_option linter.unusedSimpArgs false
namespace Go.Proofs
open Go.Px Tryz
theorem cells_agg (cs : Array Value) : (Value.agg cs).cells = cs := rfl
theorem Tryz.fa26_0 (b o : Nat) (w : World) : (Instr.fieldAt 26 (.pointer (some ⟨b, o, none⟩)) 0).run prog w = .ok (.pointer (some ⟨b, o + 0, none⟩)) w := by
 simp [Instr.fieldAt, Instr.sureAddr, fieldPlace, Addr.add_lit]
theorem Tryz.fa39_0 (b o : Nat) (w : World) : (Instr.fieldAt 39 (.pointer (some ⟨b, o, none⟩)) 0).run prog w = .ok (.pointer (some ⟨b, o + 0, none⟩)) w := by
 simp [Instr.fieldAt, Instr.sureAddr, fieldPlace, Addr.add_lit]
theorem Tryz.fa39_1 (b o : Nat) (w : World) : (Instr.fieldAt 39 (.pointer (some ⟨b, o, none⟩)) 1).run prog w = .ok (.pointer (some ⟨b, o + 1, none⟩)) w := by
 simp [Instr.fieldAt, Instr.sureAddr, fieldPlace, Addr.add_lit]
theorem Tryz.fa39_2 (b o : Nat) (w : World) : (Instr.fieldAt 39 (.pointer (some ⟨b, o, none⟩)) 2).run prog w = .ok (.pointer (some ⟨b, o + 2, none⟩)) w := by
 simp [Instr.fieldAt, Instr.sureAddr, fieldPlace, Addr.add_lit]
theorem Tryz.fa39_3 (b o : Nat) (w : World) : (Instr.fieldAt 39 (.pointer (some ⟨b, o, none⟩)) 3).run prog w = .ok (.pointer (some ⟨b, o + 3, none⟩)) w := by
 simp [Instr.fieldAt, Instr.sureAddr, fieldPlace, Addr.add_lit]
theorem Tryz.fa39_4 (b o : Nat) (w : World) : (Instr.fieldAt 39 (.pointer (some ⟨b, o, none⟩)) 4).run prog w = .ok (.pointer (some ⟨b, o + 4, none⟩)) w := by
 simp [Instr.fieldAt, Instr.sureAddr, fieldPlace, Addr.add_lit]
theorem Tryz.fa47_0 (b o : Nat) (w : World) : (Instr.fieldAt 47 (.pointer (some ⟨b, o, none⟩)) 0).run prog w = .ok (.pointer (some ⟨b, o + 0, none⟩)) w := by
 simp [Instr.fieldAt, Instr.sureAddr, fieldPlace, Addr.add_lit]
theorem Tryz.fa47_1 (b o : Nat) (w : World) : (Instr.fieldAt 47 (.pointer (some ⟨b, o, none⟩)) 1).run prog w = .ok (.pointer (some ⟨b, o + 1, none⟩)) w := by
 simp [Instr.fieldAt, Instr.sureAddr, fieldPlace, Addr.add_lit]
theorem Tryz.fa47_2 (b o : Nat) (w : World) : (Instr.fieldAt 47 (.pointer (some ⟨b, o, none⟩)) 2).run prog w = .ok (.pointer (some ⟨b, o + 2, none⟩)) w := by
 simp [Instr.fieldAt, Instr.sureAddr, fieldPlace, Addr.add_lit]
theorem Tryz.fa47_3 (b o : Nat) (w : World) : (Instr.fieldAt 47 (.pointer (some ⟨b, o, none⟩)) 3).run prog w = .ok (.pointer (some ⟨b, o + 3, none⟩)) w := by
 simp [Instr.fieldAt, Instr.sureAddr, fieldPlace, Addr.add_lit]
theorem Tryz.fa115_0 (b o : Nat) (w : World) : (Instr.fieldAt 115 (.pointer (some ⟨b, o, none⟩)) 0).run prog w = .ok (.pointer (some ⟨b, o + 0, none⟩)) w := by
 simp [Instr.fieldAt, Instr.sureAddr, fieldPlace, Addr.add_lit]
theorem Tryz.fa115_1 (b o : Nat) (w : World) : (Instr.fieldAt 115 (.pointer (some ⟨b, o, none⟩)) 1).run prog w = .ok (.pointer (some ⟨b, o + 1, none⟩)) w := by
 simp [Instr.fieldAt, Instr.sureAddr, fieldPlace, Addr.add_lit]
theorem Tryz.fa115_2 (b o : Nat) (w : World) : (Instr.fieldAt 115 (.pointer (some ⟨b, o, none⟩)) 2).run prog w = .ok (.pointer (some ⟨b, o + 2, none⟩)) w := by
 simp [Instr.fieldAt, Instr.sureAddr, fieldPlace, Addr.add_lit]
theorem Tryz.fa115_3 (b o : Nat) (w : World) : (Instr.fieldAt 115 (.pointer (some ⟨b, o, none⟩)) 3).run prog w = .ok (.pointer (some ⟨b, o + 6, none⟩)) w := by
 simp [Instr.fieldAt, Instr.sureAddr, fieldPlace, Addr.add_lit]
theorem Tryz.fa117_0 (b o : Nat) (w : World) : (Instr.fieldAt 117 (.pointer (some ⟨b, o, none⟩)) 0).run prog w = .ok (.pointer (some ⟨b, o + 0, none⟩)) w := by
 simp [Instr.fieldAt, Instr.sureAddr, fieldPlace, Addr.add_lit]
theorem Tryz.fa122_0 (b o : Nat) (w : World) : (Instr.fieldAt 122 (.pointer (some ⟨b, o, none⟩)) 0).run prog w = .ok (.pointer (some ⟨b, o + 0, none⟩)) w := by
 simp [Instr.fieldAt, Instr.sureAddr, fieldPlace, Addr.add_lit]
theorem Tryz.fa122_1 (b o : Nat) (w : World) : (Instr.fieldAt 122 (.pointer (some ⟨b, o, none⟩)) 1).run prog w = .ok (.pointer (some ⟨b, o + 5, none⟩)) w := by
 simp [Instr.fieldAt, Instr.sureAddr, fieldPlace, Addr.add_lit]
theorem Tryz.fa134_0 (b o : Nat) (w : World) : (Instr.fieldAt 134 (.pointer (some ⟨b, o, none⟩)) 0).run prog w = .ok (.pointer (some ⟨b, o + 0, none⟩)) w := by
 simp [Instr.fieldAt, Instr.sureAddr, fieldPlace, Addr.add_lit]
theorem Tryz.fa134_1 (b o : Nat) (w : World) : (Instr.fieldAt 134 (.pointer (some ⟨b, o, none⟩)) 1).run prog w = .ok (.pointer (some ⟨b, o + 1, none⟩)) w := by
 simp [Instr.fieldAt, Instr.sureAddr, fieldPlace, Addr.add_lit]
theorem Tryz.fa134_2 (b o : Nat) (w : World) : (Instr.fieldAt 134 (.pointer (some ⟨b, o, none⟩)) 2).run prog w = .ok (.pointer (some ⟨b, o + 2, none⟩)) w := by
 simp [Instr.fieldAt, Instr.sureAddr, fieldPlace, Addr.add_lit]
theorem Tryz.fa151_0 (b o : Nat) (w : World) : (Instr.fieldAt 151 (.pointer (some ⟨b, o, none⟩)) 0).run prog w = .ok (.pointer (some ⟨b, o + 0, none⟩)) w := by
 simp [Instr.fieldAt, Instr.sureAddr, fieldPlace, Addr.add_lit]
theorem Tryz.fa151_1 (b o : Nat) (w : World) : (Instr.fieldAt 151 (.pointer (some ⟨b, o, none⟩)) 1).run prog w = .ok (.pointer (some ⟨b, o + 1, none⟩)) w := by
 simp [Instr.fieldAt, Instr.sureAddr, fieldPlace, Addr.add_lit]
theorem Tryz.fv47_0 (c0 c1 c2 c3 : Value) (w : World) : (Instr.field 47 (.agg #[c0, c1, c2, c3]) 0).run prog w = .ok (c0) w := by
 simp [Instr.field, part, asAgg]
theorem Tryz.fv47_1 (c0 c1 c2 c3 : Value) (w : World) : (Instr.field 47 (.agg #[c0, c1, c2, c3]) 1).run prog w = .ok (c1) w := by
 simp [Instr.field, part, asAgg]
theorem Tryz.fv47_2 (c0 c1 c2 c3 : Value) (w : World) : (Instr.field 47 (.agg #[c0, c1, c2, c3]) 2).run prog w = .ok (c2) w := by
 simp [Instr.field, part, asAgg]
theorem Tryz.bd26_z  (w : World) : (Instr.build 26 #[]).run prog w = .ok (.agg #[.slice none 0 0]) w := by
 simp [Instr.build, Instr.fill, cells_agg]
theorem Tryz.bd39_0_1_2_4 (c0 c1 c2 c4 : Value) (h0 : isOne c0 = true) (h1 : isOne c1 = true) (h2 : isOne c2 = true) (h4 : isOne c4 = true) (w : World) : (Instr.build 39 #[(0, c0), (1, c1), (2, c2), (4, c4)]).run prog w = .ok (.agg #[c0, c1, c2, .slice none 0 0, c4]) w := by
 simp [Instr.build, Instr.fill, cells_agg, cells_one h0, cells_one h1, cells_one h2, cells_one h4]
theorem Tryz.bd47_z  (w : World) : (Instr.build 47 #[]).run prog w = .ok (.agg #[.int .i64 0, .string ⟨#[]⟩, .int .i64 0, .int .i64 0]) w := by
 simp [Instr.build, Instr.fill, cells_agg]
theorem Tryz.bd47_0_1_2_3 (c0 c1 c2 c3 : Value) (h0 : isOne c0 = true) (h1 : isOne c1 = true) (h2 : isOne c2 = true) (h3 : isOne c3 = true) (w : World) : (Instr.build 47 #[(0, c0), (1, c1), (2, c2), (3, c3)]).run prog w = .ok (.agg #[c0, c1, c2, c3]) w := by
 simp [Instr.build, Instr.fill, cells_agg, cells_one h0, cells_one h1, cells_one h2, cells_one h3]
theorem Tryz.bd47_0_2_3 (c0 c2 c3 : Value) (h0 : isOne c0 = true) (h2 : isOne c2 = true) (h3 : isOne c3 = true) (w : World) : (Instr.build 47 #[(0, c0), (2, c2), (3, c3)]).run prog w = .ok (.agg #[c0, .string ⟨#[]⟩, c2, c3]) w := by
 simp [Instr.build, Instr.fill, cells_agg, cells_one h0, cells_one h2, cells_one h3]
theorem Tryz.bd47_2 (c2 : Value) (h2 : isOne c2 = true) (w : World) : (Instr.build 47 #[(2, c2)]).run prog w = .ok (.agg #[.int .i64 0, .string ⟨#[]⟩, c2, .int .i64 0]) w := by
 simp [Instr.build, Instr.fill, cells_agg, cells_one h2]
theorem Tryz.bd115_0 (c0 : Value) (h0 : isOne c0 = true) (w : World) : (Instr.build 115 #[(0, c0)]).run prog w = .ok (.agg #[c0, .int .i64 0, .int .i64 0, .string ⟨#[]⟩, .int .i64 0, .int .i64 0, .bool false]) w := by
 simp [Instr.build, Instr.fill, cells_agg, cells_one h0]
theorem Tryz.bd117_0 (c0 : Value) (h0 : isOne c0 = true) (w : World) : (Instr.build 117 #[(0, c0)]).run prog w = .ok (.agg #[c0]) w := by
 simp [Instr.build, Instr.fill, cells_agg, cells_one h0]
theorem Tryz.bd122_0_1 (c0 c1 c2 c3 c4 c5 : Value) (h5 : isOne c5 = true) (w : World) : (Instr.build 122 #[(0, .agg #[c0, c1, c2, c3, c4]), (1, c5)]).run prog w = .ok (.agg #[c0, c1, c2, c3, c4, c5]) w := by
 simp [Instr.build, Instr.fill, cells_agg, cells_one h5]
theorem Tryz.bd134_0 (c0 : Value) (h0 : isOne c0 = true) (w : World) : (Instr.build 134 #[(0, c0)]).run prog w = .ok (.agg #[c0, .int .i64 0, .slice none 0 0]) w := by
 simp [Instr.build, Instr.fill, cells_agg, cells_one h0]
theorem Tryz.bd151_0_1 (c0 c1 : Value) (h0 : isOne c0 = true) (h1 : isOne c1 = true) (w : World) : (Instr.build 151 #[(0, c0), (1, c1)]).run prog w = .ok (.agg #[c0, c1]) w := by
 simp [Instr.build, Instr.fill, cells_agg, cells_one h0, cells_one h1]
theorem Tryz.bs22_0  (w : World) : (Instr.buildSlice 22 0 #[]).run prog w = .ok (.slice (some ⟨w.heap.size, 0, none⟩) 0 0) { w with heap := w.heap.push (.cells [].toArray 5 (0, 0)) } := by
 simp [Instr.buildSlice, Instr.fill, newRow, newObj, Sem.run, Array.range_succ, Array.range_zero', cells_agg]
theorem Tryz.bs22_1 (c0 : Value) (h0 : isOne c0 = true) (w : World) : (Instr.buildSlice 22 1 #[(0, c0)]).run prog w = .ok (.slice (some ⟨w.heap.size, 0, none⟩) 1 1) { w with heap := w.heap.push (.cells [c0].toArray 5 (0, 0)) } := by
 simp [Instr.buildSlice, Instr.fill, newRow, newObj, Sem.run, Array.range_succ, Array.range_zero', cells_agg, cells_one h0]
theorem Tryz.bs22_5 (c0 c1 c2 c3 c4 : Value) (h0 : isOne c0 = true) (h1 : isOne c1 = true) (h2 : isOne c2 = true) (h3 : isOne c3 = true) (h4 : isOne c4 = true) (w : World) : (Instr.buildSlice 22 5 #[(0, c0), (1, c1), (2, c2), (3, c3), (4, c4)]).run prog w = .ok (.slice (some ⟨w.heap.size, 0, none⟩) 5 5) { w with heap := w.heap.push (.cells [c0, c1, c2, c3, c4].toArray 5 (0, 0)) } := by
 simp [Instr.buildSlice, Instr.fill, newRow, newObj, Sem.run, Array.range_succ, Array.range_zero', cells_agg, cells_one h0, cells_one h1, cells_one h2, cells_one h3, cells_one h4]
theorem Tryz.bs24_1 (c0 c1 c2 c3 c4 : Value)  (w : World) : (Instr.buildSlice 24 1 #[(0, .agg #[c0, c1, c2, c3, c4])]).run prog w = .ok (.slice (some ⟨w.heap.size, 0, none⟩) 1 1) { w with heap := w.heap.push (.cells [c0, c1, c2, c3, c4].toArray 39 (0, 0)) } := by
 simp [Instr.buildSlice, Instr.fill, newRow, newObj, Sem.run, Array.range_succ, Array.range_zero', cells_agg]
theorem Tryz.bs37_1 (c0 : Value) (h0 : isOne c0 = true) (w : World) : (Instr.buildSlice 37 1 #[(0, c0)]).run prog w = .ok (.slice (some ⟨w.heap.size, 0, none⟩) 1 1) { w with heap := w.heap.push (.cells [c0].toArray 3 (0, 0)) } := by
 simp [Instr.buildSlice, Instr.fill, newRow, newObj, Sem.run, Array.range_succ, Array.range_zero', cells_agg, cells_one h0]
theorem Tryz.bs40_1 (c0 : Value) (h0 : isOne c0 = true) (w : World) : (Instr.buildSlice 40 1 #[(0, c0)]).run prog w = .ok (.slice (some ⟨w.heap.size, 0, none⟩) 1 1) { w with heap := w.heap.push (.cells [c0].toArray 9 (0, 0)) } := by
 simp [Instr.buildSlice, Instr.fill, newRow, newObj, Sem.run, Array.range_succ, Array.range_zero', cells_agg, cells_one h0]
theorem Tryz.bs40_2 (c0 c1 : Value) (h0 : isOne c0 = true) (h1 : isOne c1 = true) (w : World) : (Instr.buildSlice 40 2 #[(0, c0), (1, c1)]).run prog w = .ok (.slice (some ⟨w.heap.size, 0, none⟩) 2 2) { w with heap := w.heap.push (.cells [c0, c1].toArray 9 (0, 0)) } := by
 simp [Instr.buildSlice, Instr.fill, newRow, newObj, Sem.run, Array.range_succ, Array.range_zero', cells_agg, cells_one h0, cells_one h1]
theorem Tryz.bs40_3 (c0 c1 c2 : Value) (h0 : isOne c0 = true) (h1 : isOne c1 = true) (h2 : isOne c2 = true) (w : World) : (Instr.buildSlice 40 3 #[(0, c0), (1, c1), (2, c2)]).run prog w = .ok (.slice (some ⟨w.heap.size, 0, none⟩) 3 3) { w with heap := w.heap.push (.cells [c0, c1, c2].toArray 9 (0, 0)) } := by
 simp [Instr.buildSlice, Instr.fill, newRow, newObj, Sem.run, Array.range_succ, Array.range_zero', cells_agg, cells_one h0, cells_one h1, cells_one h2]
theorem Tryz.bs40_6 (c0 c1 c2 c3 c4 c5 : Value) (h0 : isOne c0 = true) (h1 : isOne c1 = true) (h2 : isOne c2 = true) (h3 : isOne c3 = true) (h4 : isOne c4 = true) (h5 : isOne c5 = true) (w : World) : (Instr.buildSlice 40 6 #[(0, c0), (1, c1), (2, c2), (3, c3), (4, c4), (5, c5)]).run prog w = .ok (.slice (some ⟨w.heap.size, 0, none⟩) 6 6) { w with heap := w.heap.push (.cells [c0, c1, c2, c3, c4, c5].toArray 9 (0, 0)) } := by
 simp [Instr.buildSlice, Instr.fill, newRow, newObj, Sem.run, Array.range_succ, Array.range_zero', cells_agg, cells_one h0, cells_one h1, cells_one h2, cells_one h3, cells_one h4, cells_one h5]
theorem Tryz.bs43_1 (c0 c1 c2 c3 : Value)  (w : World) : (Instr.buildSlice 43 1 #[(0, .agg #[c0, c1, c2, c3])]).run prog w = .ok (.slice (some ⟨w.heap.size, 0, none⟩) 1 1) { w with heap := w.heap.push (.cells [c0, c1, c2, c3].toArray 47 (0, 0)) } := by
 simp [Instr.buildSlice, Instr.fill, newRow, newObj, Sem.run, Array.range_succ, Array.range_zero', cells_agg]
theorem Tryz.bs120_1 (c0 : Value) (h0 : isOne c0 = true) (w : World) : (Instr.buildSlice 120 1 #[(0, c0)]).run prog w = .ok (.slice (some ⟨w.heap.size, 0, none⟩) 1 1) { w with heap := w.heap.push (.cells [c0].toArray 118 (0, 0)) } := by
 simp [Instr.buildSlice, Instr.fill, newRow, newObj, Sem.run, Array.range_succ, Array.range_zero', cells_agg, cells_one h0]
theorem Tryz.bs120_2 (c0 c1 : Value) (h0 : isOne c0 = true) (h1 : isOne c1 = true) (w : World) : (Instr.buildSlice 120 2 #[(0, c0), (1, c1)]).run prog w = .ok (.slice (some ⟨w.heap.size, 0, none⟩) 2 2) { w with heap := w.heap.push (.cells [c0, c1].toArray 118 (0, 0)) } := by
 simp [Instr.buildSlice, Instr.fill, newRow, newObj, Sem.run, Array.range_succ, Array.range_zero', cells_agg, cells_one h0, cells_one h1]
theorem Tryz.bs120_3 (c0 c1 c2 : Value) (h0 : isOne c0 = true) (h1 : isOne c1 = true) (h2 : isOne c2 = true) (w : World) : (Instr.buildSlice 120 3 #[(0, c0), (1, c1), (2, c2)]).run prog w = .ok (.slice (some ⟨w.heap.size, 0, none⟩) 3 3) { w with heap := w.heap.push (.cells [c0, c1, c2].toArray 118 (0, 0)) } := by
 simp [Instr.buildSlice, Instr.fill, newRow, newObj, Sem.run, Array.range_succ, Array.range_zero', cells_agg, cells_one h0, cells_one h1, cells_one h2]
theorem Tryz.bs120_4 (c0 c1 c2 c3 : Value) (h0 : isOne c0 = true) (h1 : isOne c1 = true) (h2 : isOne c2 = true) (h3 : isOne c3 = true) (w : World) : (Instr.buildSlice 120 4 #[(0, c0), (1, c1), (2, c2), (3, c3)]).run prog w = .ok (.slice (some ⟨w.heap.size, 0, none⟩) 4 4) { w with heap := w.heap.push (.cells [c0, c1, c2, c3].toArray 118 (0, 0)) } := by
 simp [Instr.buildSlice, Instr.fill, newRow, newObj, Sem.run, Array.range_succ, Array.range_zero', cells_agg, cells_one h0, cells_one h1, cells_one h2, cells_one h3]
theorem Tryz.bs132_1 (c0 : Value) (h0 : isOne c0 = true) (w : World) : (Instr.buildSlice 132 1 #[(0, c0)]).run prog w = .ok (.slice (some ⟨w.heap.size, 0, none⟩) 1 1) { w with heap := w.heap.push (.cells [c0].toArray 4 (0, 0)) } := by
 simp [Instr.buildSlice, Instr.fill, newRow, newObj, Sem.run, Array.range_succ, Array.range_zero', cells_agg, cells_one h0]
theorem Tryz.bs152_1 (c0 c1 : Value)  (w : World) : (Instr.buildSlice 152 1 #[(0, .agg #[c0, c1])]).run prog w = .ok (.slice (some ⟨w.heap.size, 0, none⟩) 1 1) { w with heap := w.heap.push (.cells [c0, c1].toArray 151 (0, 0)) } := by
 simp [Instr.buildSlice, Instr.fill, newRow, newObj, Sem.run, Array.range_succ, Array.range_zero', cells_agg]
theorem Tryz.bs160_10 (c0 c1 c2 c3 c4 c5 c6 c7 c8 c9 : Value) (h0 : isOne c0 = true) (h1 : isOne c1 = true) (h2 : isOne c2 = true) (h3 : isOne c3 = true) (h4 : isOne c4 = true) (h5 : isOne c5 = true) (h6 : isOne c6 = true) (h7 : isOne c7 = true) (h8 : isOne c8 = true) (h9 : isOne c9 = true) (w : World) : (Instr.buildSlice 160 10 #[(0, c0), (1, c1), (2, c2), (3, c3), (4, c4), (5, c5), (6, c6), (7, c7), (8, c8), (9, c9)]).run prog w = .ok (.slice (some ⟨w.heap.size, 0, none⟩) 10 10) { w with heap := w.heap.push (.cells [c0, c1, c2, c3, c4, c5, c6, c7, c8, c9].toArray 40 (0, 0)) } := by
 simp [Instr.buildSlice, Instr.fill, newRow, newObj, Sem.run, Array.range_succ, Array.range_zero', cells_agg, cells_one h0, cells_one h1, cells_one h2, cells_one h3, cells_one h4, cells_one h5, cells_one h6, cells_one h7, cells_one h8, cells_one h9]
end Go.Proofs
