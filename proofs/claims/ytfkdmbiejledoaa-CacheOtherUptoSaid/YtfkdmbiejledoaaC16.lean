/-
  Peek and Get of P.
-/
import Derived.Test.YtfkdmbiejledoaaC15
set_option linter.unusedVariables false
set_option linter.unusedSimpArgs false
namespace Go.Proofs.Ytfkdmbiejledoaa
open Go.RowKit


theorem loadVar58 {w : World} {b : Nat} {s : ByteArray} {n : Int} (h : w.heap[b]? = some (.cells #[.string s, .int .i64 n] 58 (0, 0))) : (loadVar 58 ⟨b, 0, none⟩).run Try.prog w = .ok (.agg #[.string s, .int .i64 n]) w := by
  simp [loadVar]
  have hld := run_loadCells_list (P := Try.prog) w ⟨b, 0, none⟩ [.string s, .int .i64 n] (fun j v hj => ?_)
  · have hld' : (loadCells ⟨b, 0, none⟩ 2).run Try.prog _ = _ := hld
    rw [hld']; rfl
  · match j, hj with
    | 0, hj => simp at hj; subst hj; simp only [Addr.add]; exact cell_of_block h (by show 0 < 2; decide)
    | 1, hj => simp at hj; subst hj; simp only [Addr.add]; exact cell_of_block h (by show 1 < 2; decide)
    | j + 2, hj => simp at hj
def pv (x : ByteArray × Int) : Value := .agg #[.string x.1, .int .i64 x.2]
set_option maxRecDepth 100000 in
theorem peekP_yes (c m h b : Nat) (most hits misses gone : Int) (k : Int) (v : (ByteArray × Int)) (xs ys : List (Nat × Int × (ByteArray × Int))) (w : World) (H : CRep IP w c m h most (xs ++ (b, k, v) :: ys) hits misses gone)
    (hkey : keyOf Try.prog 3 (IP.kv k) = some (IP.kl k)) :
    Calls Try.prog 45 #[ptr c, .int .i64 k] w fun r w' => r = .returned (.tuple #[pv v, .bool true]) ∧ Below w.heap.size w w' := by
  obtain ⟨s, z⟩ := v
  obtain ⟨w1, hw1⟩ : ∃ w1, w1 = w.alloc (.cells #[.string ⟨#[]⟩, .int .i64 0] 58) := ⟨_, rfl⟩
  have hb1 : Below w.heap.size w w1 := by rw [hw1]; exact (Below.refl _ _).alloc (Nat.le_refl _) _
  have hH := H.keep (w' := w1) fun b hb => hb1.block b (H.lt hb)
  have HH := Lib.hid hH
  have hn1 := (MapKept.heap_alloc w (.cells #[.string ⟨#[]⟩, .int .i64 0] 58)).1
  rw [← hw1] at hn1
  have HB := Lib.hid hb1
  have HN := Lib.hid hn1
  have hs1 : w1.heap.size = w.heap.size + 1 := by rw [hw1]; simp
  have HS1 := Lib.hid hs1
  have hl : (Instr.lookup 92 (.map (some m)) (.int .i64 k) true).run Try.prog w1 = .ok (.tuple #[.pointer (some ⟨b, 0, none⟩), .bool true]) w1 := lookP hH hkey
  have c1 : w1.cell? ⟨c, 1, none⟩ = some (.map (some m)) := cell_of_block hH.blk (by show 1 < 6; decide)
  have HK := Lib.hid hkey
  have b1 : w1.cell? ⟨b, 1, none⟩ = some (.string s) := hH.val (b, k, (s, z)) (by simp) 0 _ rfl
  have b2 : w1.cell? ⟨b, 2, none⟩ = some (.int .i64 z) := hH.val (b, k, (s, z)) (by simp) 1 _ rfl
  have z0 : w1.frozen? ⟨w.heap.size, 0, none⟩ = false := frozen_of_block hn1
  have y0 : w1.cell? ⟨w.heap.size, 0, none⟩ = some (.string ⟨#[]⟩) := cell_of_block hn1 (by show 0 < 2; decide)
  have hn3 := block_setCell (off := 0) hn1 (.string s)
  have z1 : (w1.setCell ⟨w.heap.size, 0, none⟩ (.string s)).frozen? ⟨w.heap.size, 1, none⟩ = false := frozen_of_block hn3
  have y1 : (w1.setCell ⟨w.heap.size, 0, none⟩ (.string s)).cell? ⟨w.heap.size, 1, none⟩ = some (.int .i64 0) := cell_of_block hn3 (by show 1 < 2; decide)
  have HN4 := Lib.hid (block_setCell (off := 1) hn3 (.int .i64 z))
  clear H hkey hH hb1 hn1 hn3 hs1
  go_enter Try.func45, Try.ntmps45
  go_upto_region 1 with (fail)
  rw [← hw1]
  clear hw1
  go_wp2
  refine bodyPost_ret (results_cell_tmp (a := 4) (u := 5) (t := 58) rfl _ _ _ ⟨w.heap.size, 0, none⟩ (pv (s, z)) rfl ?_) rfl ⟨rfl, ?_⟩
  · exact loadVar58 HN4.out
  exact ((HB.out.setCell (by show w.heap.size ≤ w.heap.size; omega) _).setCell (by show w.heap.size ≤ w.heap.size; omega) _)
set_option maxRecDepth 100000 in
theorem getP_yes (c m h b : Nat) (most hits misses gone : Int) (k : Int) (v : (ByteArray × Int)) (xs ys : List (Nat × Int × (ByteArray × Int))) (w : World) (H : CRep IP w c m h most (xs ++ (b, k, v) :: ys) hits misses gone)
    (hkey : keyOf Try.prog 3 (IP.kv k) = some (IP.kl k)) (hh : -1000000000 ≤ hits ∧ hits ≤ 1000000000) :
    Calls Try.prog 44 #[ptr c, .int .i64 k] w fun r w' => r = .returned (.tuple #[pv v, .bool true]) ∧ CRep IP w' c m h most ((b, k, v) :: (xs ++ ys)) (hits + 1) misses gone ∧ Turn (CFp c m h (xs ++ (b, k, v) :: ys)) w w' := by
  obtain ⟨s, z⟩ := v
  obtain ⟨w1, hw1⟩ : ∃ w1, w1 = w.alloc (.cells #[.string ⟨#[]⟩, .int .i64 0] 58) := ⟨_, rfl⟩
  have hb1 : Below w.heap.size w w1 := by rw [hw1]; exact (Below.refl _ _).alloc (Nat.le_refl _) _
  have hH := H.keep (w' := w1) fun b hb => hb1.block b (H.lt hb)
  have HH := Lib.hid hH
  have hn1 := (MapKept.heap_alloc w (.cells #[.string ⟨#[]⟩, .int .i64 0] 58)).1
  rw [← hw1] at hn1
  have HB := Lib.hid hb1
  have HN := Lib.hid hn1
  have hs1 : w1.heap.size = w.heap.size + 1 := by rw [hw1]; simp
  have HS1 := Lib.hid hs1
  have hl : (Instr.lookup 92 (.map (some m)) (.int .i64 k) true).run Try.prog w1 = .ok (.tuple #[.pointer (some ⟨b, 0, none⟩), .bool true]) w1 := lookP hH hkey
  have c1 : w1.cell? ⟨c, 1, none⟩ = some (.map (some m)) := cell_of_block hH.blk (by show 1 < 6; decide)
  have HK := Lib.hid hkey
  have c3 : w1.cell? ⟨c, 3, none⟩ = some (.int .i64 hits) := cell_of_block hH.blk (by show 3 < 6; decide)
  have f3 : w1.frozen? ⟨c, 3, none⟩ = false := frozen_of_block hH.blk
  have H1 : CRep IP (w1.setCell ⟨c, 3, none⟩ (.int .i64 (hits + 1))) c m h most (xs ++ (b, k, (s, z)) :: ys) (hits + 1) misses gone := hH.counted okP (block_setCell hH.blk _) (fun i _ hi => block_other (Ne.symm hi) _)
  have HU := Lib.hid H1
  have hcne : c ≠ w.heap.size := fun e => by have := block_lt H.blk; omega
  have hn2 := (block_other (w := w1) (off := 3) hcne (.int .i64 (hits + 1))).trans hn1
  have HN2 := Lib.hid hn2
  have HNF := Lib.hid (show ¬ CFp c m h (xs ++ (b, k, (s, z)) :: ys) w.heap.size from fun hf => by have := H.lt hf; omega)
  have HT1 := Lib.hid (show Turn (CFp c m h (xs ++ (b, k, (s, z)) :: ys)) w (w1.setCell ⟨c, 3, none⟩ (.int .i64 (hits + 1))) by rw [hw1]; exact ((Turn.refl _ w).alloc _).setCell (p := ⟨c, 3, none⟩) (.inl (.inl rfl)) _)
  clear H hkey hH hb1 hn1 H1 hcne hn2 hs1
  go_enter Try.func44, Try.ntmps44
  go_upto_region 1 with (fail)
  rw [← hw1]
  clear hw1
  go_wp2_with fail
  refine (useP c m h b most (hits + 1) misses gone k (s, z) xs ys _ HU.out).mono ?_
  rintro r w2 ⟨rfl, h1, h2, h3⟩
  have hn2 := (h2.block w.heap.size (by have := HS1.out; simp [World.setCell]; omega) HNF.out).trans HN2.out
  have b1 : w2.cell? ⟨b, 1, none⟩ = some (.string s) := h1.val (b, k, (s, z)) (by simp) 0 _ rfl
  have b2 : w2.cell? ⟨b, 2, none⟩ = some (.int .i64 z) := h1.val (b, k, (s, z)) (by simp) 1 _ rfl
  have z0 : w2.frozen? ⟨w.heap.size, 0, none⟩ = false := frozen_of_block hn2
  have y0 : w2.cell? ⟨w.heap.size, 0, none⟩ = some (.string ⟨#[]⟩) := cell_of_block hn2 (by show 0 < 2; decide)
  have hn3 := block_setCell (off := 0) hn2 (.string s)
  have z1 : (w2.setCell ⟨w.heap.size, 0, none⟩ (.string s)).frozen? ⟨w.heap.size, 1, none⟩ = false := frozen_of_block hn3
  have y1 : (w2.setCell ⟨w.heap.size, 0, none⟩ (.string s)).cell? ⟨w.heap.size, 1, none⟩ = some (.int .i64 0) := cell_of_block hn3 (by show 1 < 2; decide)
  have HN4 := Lib.hid (block_setCell (off := 1) hn3 (.int .i64 z))
  have HNG := Lib.hid (show ¬ CFp c m h ((b, k, (s, z)) :: (xs ++ ys)) w.heap.size from fun hf => HNF.out (by rcases hf with q | q | q; exact .inl q; exact .inr (.inl q); exact .inr (.inr (by simp only [List.map_cons, List.map_append, List.mem_cons, List.mem_append] at q ⊢; rcases q with q | q | q | q <;> simp [q]))))
  have H1 := Lib.hid h1
  have H2 := Lib.hid (HT1.out.trans h2)
  clear h1 h2 h3 c1 hl c3 f3 hn2 hn3
  go_wp2
  refine bodyPost_ret (results_cell_tmp (a := 4) (u := 5) (t := 58) rfl _ _ _ ⟨w.heap.size, 0, none⟩ (pv (s, z)) rfl ?_) rfl ⟨rfl, H1.out.keep fun i hi => ?_, (H2.out.setCell (p := ⟨w.heap.size, 0, none⟩) (.inr (Nat.le_refl _)) _).setCell (p := ⟨w.heap.size, 1, none⟩) (.inr (Nat.le_refl _)) _⟩
  · exact loadVar58 HN4.out
  have hne : w.heap.size ≠ i := fun e => HNG.out (e ▸ hi)
  exact (block_other hne _).trans (block_other hne _)
set_option maxRecDepth 100000 in
theorem getP_no (c m h : Nat) (most hits misses gone : Int) (k : Int) (L : List (Nat × Int × (ByteArray × Int))) (w : World) (H : CRep IP w c m h most L hits misses gone)
    (hkey : keyOf Try.prog 3 (IP.kv k) = some (IP.kl k)) (hk : k ∉ L.map (·.2.1)) (hh : -1000000000 ≤ misses ∧ misses ≤ 1000000000) :
    Calls Try.prog 44 #[ptr c, .int .i64 k] w fun r w' => r = .returned (.tuple #[pv (⟨#[]⟩, 0), .bool false]) ∧ CRep IP w' c m h most L hits (misses + 1) gone ∧ Turn (CFp c m h L) w w' := by
  obtain ⟨w1, hw1⟩ : ∃ w1, w1 = w.alloc (.cells #[.string ⟨#[]⟩, .int .i64 0] 58) := ⟨_, rfl⟩
  have hb1 : Below w.heap.size w w1 := by rw [hw1]; exact (Below.refl _ _).alloc (Nat.le_refl _) _
  have hH := H.keep (w' := w1) fun b hb => hb1.block b (H.lt hb)
  have HH := Lib.hid hH
  have hn1 := (MapKept.heap_alloc w (.cells #[.string ⟨#[]⟩, .int .i64 0] 58)).1
  rw [← hw1] at hn1
  have HB := Lib.hid hb1
  have HN := Lib.hid hn1
  have hs1 : w1.heap.size = w.heap.size + 1 := by rw [hw1]; simp
  have HS1 := Lib.hid hs1
  have hl : (Instr.lookup 92 (.map (some m)) (.int .i64 k) true).run Try.prog w1 = .ok (.tuple #[.pointer none, .bool false]) w1 := missP hH hkey hk
  have c1 : w1.cell? ⟨c, 1, none⟩ = some (.map (some m)) := cell_of_block hH.blk (by show 1 < 6; decide)
  have HK := Lib.hid hkey
  have c4 : w1.cell? ⟨c, 4, none⟩ = some (.int .i64 misses) := cell_of_block hH.blk (by show 4 < 6; decide)
  have f4 : w1.frozen? ⟨c, 4, none⟩ = false := frozen_of_block hH.blk
  have hcne : c ≠ w.heap.size := fun e => by have := block_lt H.blk; omega
  have HHL := Lib.hid H
  clear H hkey hk hb1 hH
  go_enter Try.func44, Try.ntmps44
  go_upto_region 1 with (fail)
  rw [← hw1]
  have hT : Turn (CFp c m h L) w (w1.setCell ⟨c, 4, none⟩ (.int .i64 (misses + 1))) := by rw [hw1]; exact ((Turn.refl _ w).alloc _).setCell (p := ⟨c, 4, none⟩) (.inl (.inl rfl)) _
  clear hw1
  go_upto_region 4 with (fail)
  obtain ⟨w2, hw2⟩ : ∃ w2, w2 = w1.setCell ⟨c, 4, none⟩ (.int .i64 (misses + 1)) := ⟨_, rfl⟩
  rw [← hw2] at hT ⊢
  have hn2 : w2.heap[w.heap.size]? = some (.cells #[.string ⟨#[]⟩, .int .i64 0] 58 (0, 0)) := by rw [hw2]; exact (block_other (w := w1) (off := 4) hcne (.int .i64 (misses + 1))).trans hn1
  have hs2 : w2.heap.size = w.heap.size + 1 := by rw [hw2]; simp [World.setCell, hs1]
  have hr2 : CRep IP w2 c m h most L hits (misses + 1) gone := by rw [hw2]; exact HH.out.counted okP (block_setCell HH.out.blk _) (fun i _ hi => block_other (Ne.symm hi) _)
  have HR := Lib.hid hr2
  have HT := Lib.hid hT
  have ho := Below.heap_alloc w2 (.cells #[.string ⟨#[]⟩, .int .i64 0] 58) _ (block_lt hn2)
  have hn3 := ho.trans hn2
  have hn4 := (MapKept.heap_alloc w2 (.cells #[.string ⟨#[]⟩, .int .i64 0] 58)).1
  have a0 : (w2.alloc (.cells #[.string ⟨#[]⟩, .int .i64 0] 58)).cell? ⟨w2.heap.size, 0, none⟩ = some (.string ⟨#[]⟩) := cell_of_block hn4 (by show 0 < 2; decide)
  have a1 : (w2.alloc (.cells #[.string ⟨#[]⟩, .int .i64 0] 58)).cell? ⟨w2.heap.size, 1, none⟩ = some (.int .i64 0) := cell_of_block hn4 (by show 1 < 2; decide)
  have y0 : (w2.alloc (.cells #[.string ⟨#[]⟩, .int .i64 0] 58)).cell? ⟨w.heap.size, 0, none⟩ = some (.string ⟨#[]⟩) := cell_of_block hn3 (by show 0 < 2; decide)
  have z0 : (w2.alloc (.cells #[.string ⟨#[]⟩, .int .i64 0] 58)).frozen? ⟨w.heap.size, 0, none⟩ = false := frozen_of_block hn3
  have hn5 := block_setCell (off := 0) hn3 (.string ⟨#[]⟩)
  have y1 : ((w2.alloc (.cells #[.string ⟨#[]⟩, .int .i64 0] 58)).setCell ⟨w.heap.size, 0, none⟩ (.string ⟨#[]⟩)).cell? ⟨w.heap.size, 1, none⟩ = some (.int .i64 0) := cell_of_block hn5 (by show 1 < 2; decide)
  have z1 : ((w2.alloc (.cells #[.string ⟨#[]⟩, .int .i64 0] 58)).setCell ⟨w.heap.size, 0, none⟩ (.string ⟨#[]⟩)).frozen? ⟨w.heap.size, 1, none⟩ = false := frozen_of_block hn5
  have HN4 := Lib.hid (block_setCell (off := 1) hn5 (.int .i64 0))
  clear hn1 hn2 hn3 hn4 hn5 ho hw2 hr2 hT c4 f4 c1 hl hs1 hs2
  go_wp2
  refine bodyPost_ret (results_cell_tmp (a := 4) (u := 5) (t := 58) rfl _ _ _ ⟨w.heap.size, 0, none⟩ (pv (⟨#[]⟩, 0)) rfl ?_) rfl ⟨rfl, (HR.out.alloc (.cells #[.string ⟨#[]⟩, .int .i64 0] 58)).keep fun i hi => ?_, ((HT.out.alloc _).setCell (p := ⟨w.heap.size, 0, none⟩) (.inr (Nat.le_refl _)) _).setCell (p := ⟨w.heap.size, 1, none⟩) (.inr (Nat.le_refl _)) _⟩
  · exact loadVar58 HN4.out
  have hne : w.heap.size ≠ i := fun e => by have := HHL.out.lt hi; omega
  exact (block_other hne _).trans (block_other hne _)
end Go.Proofs.Ytfkdmbiejledoaa
