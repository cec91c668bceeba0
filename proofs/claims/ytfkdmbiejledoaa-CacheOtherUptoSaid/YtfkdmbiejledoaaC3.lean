/-
  Drop, Len, Counts, Peek, Get.
-/
import Derived.Test.YtfkdmbiejledoaaC2
set_option linter.unusedVariables false
set_option linter.unusedSimpArgs false
namespace Go.Proofs.Ytfkdmbiejledoaa
open Go.RowKit


set_option maxRecDepth 100000 in
theorem lookS {c m h b : Nat} {most hits misses gone : Int} {k : ByteArray} {v : ByteArray} {xs ys : List (Nat × ByteArray × ByteArray)} {w : World} (H : CRep IS w c m h most (xs ++ (b, k, v) :: ys) hits misses gone)
    (hkey : keyOf Try.prog 9 (IS.kv k) = some (IS.kl k)) : (Instr.lookup 62 (.map (some m)) (Value.string k) true).run Try.prog w = .ok (.tuple #[.pointer (some ⟨b, 0, none⟩), .bool true]) w :=
  H.look (t := 62) (e := 63) okS Try.underlying62 (zpS w) hkey
set_option maxRecDepth 100000 in
theorem missS {c m h : Nat} {most hits misses gone : Int} {k : ByteArray} {L : List (Nat × ByteArray × ByteArray)} {w : World} (H : CRep IS w c m h most L hits misses gone)
    (hkey : keyOf Try.prog 9 (IS.kv k) = some (IS.kl k)) (hk : k ∉ L.map (·.2.1)) : (Instr.lookup 62 (.map (some m)) (Value.string k) true).run Try.prog w = .ok (.tuple #[.pointer none, .bool false]) w :=
  H.miss (t := 62) (e := 63) okS Try.underlying62 (zpS w) hkey hk

theorem dropS_yes (c m h b : Nat) (most hits misses gone : Int) (k : ByteArray) (v : ByteArray) (xs ys : List (Nat × ByteArray × ByteArray)) (w : World) (H : CRep IS w c m h most (xs ++ (b, k, v) :: ys) hits misses gone)
    (hkey : keyOf Try.prog 9 (IS.kv k) = some (IS.kl k)) :
    Calls Try.prog 23 #[ptr c, Value.string k] w fun r w' => r = .returned (.bool true) ∧ CRep IS w' c m h most (xs ++ ys) hits misses gone ∧ Turn (CFp c m h (xs ++ (b, k, v) :: ys)) w w' ∧ w'.heap.size = w.heap.size := by
  have HH := Lib.hid H
  have hl : (Instr.lookup 62 (.map (some m)) (Value.string k) true).run Try.prog w = .ok (.tuple #[.pointer (some ⟨b, 0, none⟩), .bool true]) w := lookS H hkey
  have c1 : w.cell? ⟨c, 1, none⟩ = some (.map (some m)) := cell_of_block H.blk (by show 1 < 6; decide)
  have HK := Lib.hid hkey
  clear H hkey
  go_enter Try.func23, Try.ntmps23
  go_wp2_with fail
  refine (forgetS c m h b most hits misses gone k v xs ys w HH.out HK.out).mono ?_
  rintro r w1 ⟨rfl, h1, h2, h3⟩
  have H1 := Lib.hid h1
  have H2 := Lib.hid h2
  have H3 := Lib.hid h3
  clear h1 h2 h3 c1 hl
  go_wp2
  go_ret
  exact ⟨rfl, H1.out, H2.out, H3.out⟩
theorem dropS_no (c m h : Nat) (most hits misses gone : Int) (k : ByteArray) (L : List (Nat × ByteArray × ByteArray)) (w : World) (H : CRep IS w c m h most L hits misses gone)
    (hkey : keyOf Try.prog 9 (IS.kv k) = some (IS.kl k)) (hk : k ∉ L.map (·.2.1)) :
    Calls Try.prog 23 #[ptr c, Value.string k] w fun r w' => r = .returned (.bool false) ∧ w = w' := by
  have HH := Lib.hid H
  have hl : (Instr.lookup 62 (.map (some m)) (Value.string k) true).run Try.prog w = .ok (.tuple #[.pointer none, .bool false]) w := missS H hkey hk
  have c1 : w.cell? ⟨c, 1, none⟩ = some (.map (some m)) := cell_of_block H.blk (by show 1 < 6; decide)
  have HK := Lib.hid hkey
  clear H hkey hk
  go_enter Try.func23, Try.ntmps23
  go_wp2
  go_ret
  exact ⟨rfl, rfl⟩
set_option maxRecDepth 100000 in
theorem lenS_calls (c m h : Nat) (most hits misses gone : Int) (L : List (Nat × ByteArray × ByteArray)) (w : World) (H : CRep IS w c m h most L hits misses gone) :
    Calls Try.prog 22 #[ptr c] w fun r w' => r = .returned (.int .i64 L.length) ∧ w = w' := by
  have hl : ∀ ty, (Builtin.len_ #[62] ty #[.map (some m)]).run Try.prog w = .ok (.int .i64 L.length) w := fun ty => MapF.len (P := Try.prog) (k := 9) (e := 63) H.map Try.underlying62 ty
  have c1 : w.cell? ⟨c, 1, none⟩ = some (.map (some m)) := cell_of_block H.blk (by show 1 < 6; decide)
  clear H
  go_enter Try.func22, Try.ntmps22
  go_wp2
  go_ret
  exact ⟨rfl, rfl⟩
set_option maxRecDepth 100000 in
theorem countsS_calls (c m h : Nat) (most hits misses gone : Int) (L : List (Nat × ByteArray × ByteArray)) (w : World) (H : CRep IS w c m h most L hits misses gone) :
    Calls Try.prog 26 #[ptr c] w fun r w' => r = .returned (.tuple #[.int .i64 hits, .int .i64 misses, .int .i64 gone]) ∧ ∃ n, w' = w.drewN n := by
  have c3 : w.cell? ⟨c, 3, none⟩ = some (.int .i64 hits) := cell_of_block H.blk (by show 3 < 6; decide)
  have c4 : w.cell? ⟨c, 4, none⟩ = some (.int .i64 misses) := cell_of_block H.blk (by show 4 < 6; decide)
  have c5 : w.cell? ⟨c, 5, none⟩ = some (.int .i64 gone) := cell_of_block H.blk (by show 5 < 6; decide)
  clear H
  go_enter Try.func26, Try.ntmps26
  go_wp2
  go_quiet (fail)
  go_wp2
  go_ret3
  exact ⟨rfl, _, rfl⟩

set_option maxRecDepth 100000 in
theorem lookP {c m h b : Nat} {most hits misses gone : Int} {k : Int} {v : (ByteArray × Int)} {xs ys : List (Nat × Int × (ByteArray × Int))} {w : World} (H : CRep IP w c m h most (xs ++ (b, k, v) :: ys) hits misses gone)
    (hkey : keyOf Try.prog 3 (IP.kv k) = some (IP.kl k)) : (Instr.lookup 92 (.map (some m)) (Value.int .i64 k) true).run Try.prog w = .ok (.tuple #[.pointer (some ⟨b, 0, none⟩), .bool true]) w :=
  H.look (t := 92) (e := 93) okP Try.underlying92 (zpP w) hkey
set_option maxRecDepth 100000 in
theorem missP {c m h : Nat} {most hits misses gone : Int} {k : Int} {L : List (Nat × Int × (ByteArray × Int))} {w : World} (H : CRep IP w c m h most L hits misses gone)
    (hkey : keyOf Try.prog 3 (IP.kv k) = some (IP.kl k)) (hk : k ∉ L.map (·.2.1)) : (Instr.lookup 92 (.map (some m)) (Value.int .i64 k) true).run Try.prog w = .ok (.tuple #[.pointer none, .bool false]) w :=
  H.miss (t := 92) (e := 93) okP Try.underlying92 (zpP w) hkey hk

theorem dropP_yes (c m h b : Nat) (most hits misses gone : Int) (k : Int) (v : (ByteArray × Int)) (xs ys : List (Nat × Int × (ByteArray × Int))) (w : World) (H : CRep IP w c m h most (xs ++ (b, k, v) :: ys) hits misses gone)
    (hkey : keyOf Try.prog 3 (IP.kv k) = some (IP.kl k)) :
    Calls Try.prog 47 #[ptr c, Value.int .i64 k] w fun r w' => r = .returned (.bool true) ∧ CRep IP w' c m h most (xs ++ ys) hits misses gone ∧ Turn (CFp c m h (xs ++ (b, k, v) :: ys)) w w' ∧ w'.heap.size = w.heap.size := by
  have HH := Lib.hid H
  have hl : (Instr.lookup 92 (.map (some m)) (Value.int .i64 k) true).run Try.prog w = .ok (.tuple #[.pointer (some ⟨b, 0, none⟩), .bool true]) w := lookP H hkey
  have c1 : w.cell? ⟨c, 1, none⟩ = some (.map (some m)) := cell_of_block H.blk (by show 1 < 6; decide)
  have HK := Lib.hid hkey
  clear H hkey
  go_enter Try.func47, Try.ntmps47
  go_wp2_with fail
  refine (forgetP c m h b most hits misses gone k v xs ys w HH.out HK.out).mono ?_
  rintro r w1 ⟨rfl, h1, h2, h3⟩
  have H1 := Lib.hid h1
  have H2 := Lib.hid h2
  have H3 := Lib.hid h3
  clear h1 h2 h3 c1 hl
  go_wp2
  go_ret
  exact ⟨rfl, H1.out, H2.out, H3.out⟩
theorem dropP_no (c m h : Nat) (most hits misses gone : Int) (k : Int) (L : List (Nat × Int × (ByteArray × Int))) (w : World) (H : CRep IP w c m h most L hits misses gone)
    (hkey : keyOf Try.prog 3 (IP.kv k) = some (IP.kl k)) (hk : k ∉ L.map (·.2.1)) :
    Calls Try.prog 47 #[ptr c, Value.int .i64 k] w fun r w' => r = .returned (.bool false) ∧ w = w' := by
  have HH := Lib.hid H
  have hl : (Instr.lookup 92 (.map (some m)) (Value.int .i64 k) true).run Try.prog w = .ok (.tuple #[.pointer none, .bool false]) w := missP H hkey hk
  have c1 : w.cell? ⟨c, 1, none⟩ = some (.map (some m)) := cell_of_block H.blk (by show 1 < 6; decide)
  have HK := Lib.hid hkey
  clear H hkey hk
  go_enter Try.func47, Try.ntmps47
  go_wp2
  go_ret
  exact ⟨rfl, rfl⟩
set_option maxRecDepth 100000 in
theorem lenP_calls (c m h : Nat) (most hits misses gone : Int) (L : List (Nat × Int × (ByteArray × Int))) (w : World) (H : CRep IP w c m h most L hits misses gone) :
    Calls Try.prog 49 #[ptr c] w fun r w' => r = .returned (.int .i64 L.length) ∧ w = w' := by
  have hl : ∀ ty, (Builtin.len_ #[92] ty #[.map (some m)]).run Try.prog w = .ok (.int .i64 L.length) w := fun ty => MapF.len (P := Try.prog) (k := 3) (e := 93) H.map Try.underlying92 ty
  have c1 : w.cell? ⟨c, 1, none⟩ = some (.map (some m)) := cell_of_block H.blk (by show 1 < 6; decide)
  clear H
  go_enter Try.func49, Try.ntmps49
  go_wp2
  go_ret
  exact ⟨rfl, rfl⟩
set_option maxRecDepth 100000 in
theorem countsP_calls (c m h : Nat) (most hits misses gone : Int) (L : List (Nat × Int × (ByteArray × Int))) (w : World) (H : CRep IP w c m h most L hits misses gone) :
    Calls Try.prog 51 #[ptr c] w fun r w' => r = .returned (.tuple #[.int .i64 hits, .int .i64 misses, .int .i64 gone]) ∧ ∃ n, w' = w.drewN n := by
  have c3 : w.cell? ⟨c, 3, none⟩ = some (.int .i64 hits) := cell_of_block H.blk (by show 3 < 6; decide)
  have c4 : w.cell? ⟨c, 4, none⟩ = some (.int .i64 misses) := cell_of_block H.blk (by show 4 < 6; decide)
  have c5 : w.cell? ⟨c, 5, none⟩ = some (.int .i64 gone) := cell_of_block H.blk (by show 5 < 6; decide)
  clear H
  go_enter Try.func51, Try.ntmps51
  go_wp2
  go_quiet (fail)
  go_wp2
  go_ret3
  exact ⟨rfl, _, rfl⟩

theorem peekS_yes (c m h b : Nat) (most hits misses gone : Int) (k : ByteArray) (v : ByteArray) (xs ys : List (Nat × ByteArray × ByteArray)) (w : World) (H : CRep IS w c m h most (xs ++ (b, k, v) :: ys) hits misses gone)
    (hkey : keyOf Try.prog 9 (IS.kv k) = some (IS.kl k)) :
    Calls Try.prog 18 #[ptr c, Value.string k] w fun r w' => r = .returned (.tuple #[.string v, .bool true]) ∧ w = w' := by
  have HH := Lib.hid H
  have hl : (Instr.lookup 62 (.map (some m)) (Value.string k) true).run Try.prog w = .ok (.tuple #[.pointer (some ⟨b, 0, none⟩), .bool true]) w := lookS H hkey
  have c1 : w.cell? ⟨c, 1, none⟩ = some (.map (some m)) := cell_of_block H.blk (by show 1 < 6; decide)
  have HK := Lib.hid hkey
  have b1 : w.cell? ⟨b, 1, none⟩ = some (.string v) := H.val (b, k, v) (by simp) 0 _ rfl
  clear H hkey
  go_enter Try.func18, Try.ntmps18
  go_wp2
  go_ret2
  exact ⟨rfl, rfl⟩
theorem peekS_no (c m h : Nat) (most hits misses gone : Int) (k : ByteArray) (L : List (Nat × ByteArray × ByteArray)) (w : World) (H : CRep IS w c m h most L hits misses gone)
    (hkey : keyOf Try.prog 9 (IS.kv k) = some (IS.kl k)) (hk : k ∉ L.map (·.2.1)) :
    Calls Try.prog 18 #[ptr c, Value.string k] w fun r w' => r = .returned (.tuple #[.string ⟨#[]⟩, .bool false]) ∧ Below w.heap.size w w' := by
  have HH := Lib.hid H
  have hl : (Instr.lookup 62 (.map (some m)) (Value.string k) true).run Try.prog w = .ok (.tuple #[.pointer none, .bool false]) w := missS H hkey hk
  have c1 : w.cell? ⟨c, 1, none⟩ = some (.map (some m)) := cell_of_block H.blk (by show 1 < 6; decide)
  have HK := Lib.hid hkey
  clear H hkey hk
  go_enter Try.func18, Try.ntmps18
  go_wp2
  go_ret2
  exact ⟨rfl, (Below.refl _ _).alloc (Nat.le_refl _) _⟩
theorem getS_yes (c m h b : Nat) (most hits misses gone : Int) (k : ByteArray) (v : ByteArray) (xs ys : List (Nat × ByteArray × ByteArray)) (w : World) (H : CRep IS w c m h most (xs ++ (b, k, v) :: ys) hits misses gone)
    (hkey : keyOf Try.prog 9 (IS.kv k) = some (IS.kl k)) (hh : -1000000000 ≤ hits ∧ hits ≤ 1000000000) :
    Calls Try.prog 19 #[ptr c, Value.string k] w fun r w' => r = .returned (.tuple #[.string v, .bool true]) ∧ CRep IS w' c m h most ((b, k, v) :: (xs ++ ys)) (hits + 1) misses gone ∧ Turn (CFp c m h (xs ++ (b, k, v) :: ys)) w w' ∧ w'.heap.size = w.heap.size := by
  have HH := Lib.hid H
  have hl : (Instr.lookup 62 (.map (some m)) (Value.string k) true).run Try.prog w = .ok (.tuple #[.pointer (some ⟨b, 0, none⟩), .bool true]) w := lookS H hkey
  have c1 : w.cell? ⟨c, 1, none⟩ = some (.map (some m)) := cell_of_block H.blk (by show 1 < 6; decide)
  have HK := Lib.hid hkey
  have c3 : w.cell? ⟨c, 3, none⟩ = some (.int .i64 hits) := cell_of_block H.blk (by show 3 < 6; decide)
  have f3 : w.frozen? ⟨c, 3, none⟩ = false := frozen_of_block H.blk
  have H1 : CRep IS (w.setCell ⟨c, 3, none⟩ (.int .i64 (hits + 1))) c m h most (xs ++ (b, k, v) :: ys) (hits + 1) misses gone := H.counted okS (block_setCell H.blk _) (fun i _ hi => block_other (Ne.symm hi) _)
  have HU := Lib.hid H1
  clear H hkey H1
  go_enter Try.func19, Try.ntmps19
  go_wp2_with fail
  refine (useS c m h b most (hits + 1) misses gone k v xs ys _ HU.out).mono ?_
  rintro r w1 ⟨rfl, h1, h2, h3⟩
  have b1 : w1.cell? ⟨b, 1, none⟩ = some (.string v) := h1.val (b, k, v) (by simp) 0 _ rfl
  have H1 := Lib.hid h1
  have H2 := Lib.hid h2
  have H3 := Lib.hid h3
  clear h1 h2 h3 c1 hl c3 f3
  go_wp2
  go_ret2
  exact ⟨rfl, H1.out, ((Turn.refl _ w).setCell (p := ⟨c, 3, none⟩) (.inl (.inl rfl)) _).trans H2.out, by rw [H3.out]; simp [World.setCell]⟩
theorem getS_no (c m h : Nat) (most hits misses gone : Int) (k : ByteArray) (L : List (Nat × ByteArray × ByteArray)) (w : World) (H : CRep IS w c m h most L hits misses gone)
    (hkey : keyOf Try.prog 9 (IS.kv k) = some (IS.kl k)) (hk : k ∉ L.map (·.2.1)) (hh : -1000000000 ≤ misses ∧ misses ≤ 1000000000) :
    Calls Try.prog 19 #[ptr c, Value.string k] w fun r w' => r = .returned (.tuple #[.string ⟨#[]⟩, .bool false]) ∧ CRep IS w' c m h most L hits (misses + 1) gone ∧ Turn (CFp c m h L) w w' := by
  have HH := Lib.hid H
  have hl : (Instr.lookup 62 (.map (some m)) (Value.string k) true).run Try.prog w = .ok (.tuple #[.pointer none, .bool false]) w := missS H hkey hk
  have c1 : w.cell? ⟨c, 1, none⟩ = some (.map (some m)) := cell_of_block H.blk (by show 1 < 6; decide)
  have HK := Lib.hid hkey
  have c4 : w.cell? ⟨c, 4, none⟩ = some (.int .i64 misses) := cell_of_block H.blk (by show 4 < 6; decide)
  have f4 : w.frozen? ⟨c, 4, none⟩ = false := frozen_of_block H.blk
  clear H hkey hk
  go_enter Try.func19, Try.ntmps19
  go_wp2
  go_ret2
  refine ⟨rfl, ?_, ((Turn.refl _ w).setCell (p := ⟨c, 4, none⟩) (.inl (.inl rfl)) _).alloc _⟩
  have h1 : CRep IS (w.setCell ⟨c, 4, none⟩ (.int .i64 (misses + 1))) c m h most L hits (misses + 1) gone := HH.out.counted okS (block_setCell HH.out.blk _) (fun i _ hi => block_other (Ne.symm hi) _)
  exact h1.keep fun i hi => Below.heap_alloc _ _ _ (h1.lt hi)
end Go.Proofs.Ytfkdmbiejledoaa
