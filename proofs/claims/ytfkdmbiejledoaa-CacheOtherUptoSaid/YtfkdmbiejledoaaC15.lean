/-
  Peek of P.
-/
import Derived.Test.YtfkdmbiejledoaaC6
import Derived.Laws.Cells
set_option linter.unusedVariables false
set_option linter.unusedSimpArgs false
namespace Go.Proofs.Ytfkdmbiejledoaa
open Go.RowKit


theorem results_cell_tmp {fn : Func} {a u : Tmp} {t : TypeId} (h : fn.results = #[.cell a t, .tmp u]) (tmps : Array Value) (P : Program) (w : World) (ad : Addr) (v : Value) (ha : tmps.getD a undef = .pointer (some ad)) (hv : (loadVar t ad).run P w = .ok v w) :
    (results fn tmps).run P w = .ok (.tuple #[v, tmps.getD u undef]) w := by
  have ha' : tmps[a]?.getD undef = .pointer (some ad) := by simpa using ha
  simp [results, h, ha', asAddr, hv]
set_option maxRecDepth 100000 in
theorem peekP_no (c m h : Nat) (most hits misses gone : Int) (k : Int) (L : List (Nat × Int × (ByteArray × Int))) (w : World) (H : CRep IP w c m h most L hits misses gone)
    (hkey : keyOf Try.prog 3 (IP.kv k) = some (IP.kl k)) (hk : k ∉ L.map (·.2.1)) :
    Calls Try.prog 45 #[ptr c, .int .i64 k] w fun r w' => r = .returned (.tuple #[.agg #[.string ⟨#[]⟩, .int .i64 0], .bool false]) ∧ Below w.heap.size w w' := by
  obtain ⟨w1, hw1⟩ : ∃ w1, w1 = w.alloc (.cells #[.string ⟨#[]⟩, .int .i64 0] 58) := ⟨_, rfl⟩
  have hb1 : Below w.heap.size w w1 := by rw [hw1]; exact (Below.refl _ _).alloc (Nat.le_refl _) _
  have HH := Lib.hid (H.keep (w' := w1) fun b hb => hb1.block b (H.lt hb))
  have hn1 := (MapKept.heap_alloc w (.cells #[.string ⟨#[]⟩, .int .i64 0] 58)).1
  rw [← hw1] at hn1
  have HB := Lib.hid hb1
  have HN := Lib.hid hn1
  have hl := missP HH.out hkey hk
  have c1 : w1.cell? ⟨c, 1, none⟩ = some (.map (some m)) := cell_of_block HH.out.blk (by show 1 < 6; decide)
  clear H hkey hk hb1 hn1
  go_enter Try.func45, Try.ntmps45
  go_upto_region 1 with (fail)
  rw [← hw1]
  clear hw1
  have hn2 : (w1.alloc (.cells #[.string ⟨#[]⟩, .int .i64 0] 58)).heap[w.heap.size]? = some (.cells #[.string ⟨#[]⟩, .int .i64 0] 58 (0, 0)) := by
    rw [Below.heap_alloc _ _ _ (block_lt HN.out)]; exact HN.out
  have a0 : (w1.alloc (.cells #[.string ⟨#[]⟩, .int .i64 0] 58)).cell? ⟨w.heap.size, 0, none⟩ = some (.string ⟨#[]⟩) := cell_of_block hn2 (by show 0 < 2; decide)
  have z0 : (w1.alloc (.cells #[.string ⟨#[]⟩, .int .i64 0] 58)).frozen? ⟨w.heap.size, 0, none⟩ = false := frozen_of_block hn2
  have hn3 := block_setCell (off := 0) hn2 (.string ⟨#[]⟩)
  have a1 : ((w1.alloc (.cells #[.string ⟨#[]⟩, .int .i64 0] 58)).setCell ⟨w.heap.size, 0, none⟩ (.string ⟨#[]⟩)).cell? ⟨w.heap.size, 1, none⟩ = some (.int .i64 0) := cell_of_block hn3 (by show 1 < 2; decide)
  have z1 : ((w1.alloc (.cells #[.string ⟨#[]⟩, .int .i64 0] 58)).setCell ⟨w.heap.size, 0, none⟩ (.string ⟨#[]⟩)).frozen? ⟨w.heap.size, 1, none⟩ = false := frozen_of_block hn3
  have HN3 := Lib.hid hn3
  clear hn2 hn3
  go_wp2
  refine bodyPost_ret (results_cell_tmp (a := 4) (u := 5) (t := 58) rfl _ _ _ ⟨w.heap.size, 0, none⟩ (.agg #[.string ⟨#[]⟩, .int .i64 0]) rfl ?_) rfl ⟨rfl, ?_⟩
  · simp [loadVar]
    have hld := run_loadCells_list (P := Try.prog) (((w1.alloc (.cells #[.string ⟨#[]⟩, .int .i64 0] 58)).setCell ⟨w.heap.size, 0, none⟩ (.string ⟨#[]⟩)).setCell ⟨w.heap.size, 1, none⟩ (.int .i64 0)) ⟨w.heap.size, 0, none⟩ [.string ⟨#[]⟩, .int .i64 0] (fun j v hj => ?_)
    · have hld' : (loadCells ⟨w.heap.size, 0, none⟩ 2).run Try.prog _ = _ := hld
      rw [hld']; rfl
    · have hb2 := block_setCell (off := 1) HN3.out (.int .i64 0)
      match j, hj with
      | 0, hj => simp at hj; subst hj; simp only [Addr.add]; exact cell_of_block hb2 (by show 0 < 2; decide)
      | 1, hj => simp at hj; subst hj; simp only [Addr.add]; exact cell_of_block hb2 (by show 1 < 2; decide)
      | j + 2, hj => simp at hj
  · exact (HB.out.alloc HB.out.size _).setCell (by show w.heap.size ≤ w.heap.size; omega) _ |>.setCell (by show w.heap.size ≤ w.heap.size; omega) _
end Go.Proofs.Ytfkdmbiejledoaa
