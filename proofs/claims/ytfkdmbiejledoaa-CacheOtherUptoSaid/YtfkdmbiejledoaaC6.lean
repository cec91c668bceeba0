/-
  Clear, New.
-/
import Derived.Test.YtfkdmbiejledoaaC5
set_option linter.unusedVariables false
set_option linter.unusedSimpArgs false
namespace Go.Proofs.Ytfkdmbiejledoaa
open Go.RowKit


set_option maxHeartbeats 2000000 in
set_option maxRecDepth 100000 in
theorem clearS_calls (c m h : Nat) (most hits misses gone : Int) (L : List (Nat × ByteArray × ByteArray)) (w : World) (H : CRep IS w c m h most L hits misses gone) :
    Calls Try.prog 25 #[ptr c] w fun r w' => r = .returned (.tuple #[]) ∧ CRep IS w' c m h most [] hits misses gone ∧ Turn (CFp c m h L) w w' := by
  have HH := Lib.hid H
  have c1 : w.cell? ⟨c, 1, none⟩ = some (.map (some m)) := cell_of_block H.blk (by show 1 < 6; decide)
  have HM := Lib.hid (show MapF Try.prog 9 w m _ _ from H.map)
  clear H
  go_enter Try.func25, Try.ntmps25
  go_wp2_with (refine wpList_mapF_clear (by rfl) (.tmp 5) 62 (by rfl) 9 63 Try.underlying62 m _ _ (by rfl) HM.out ?_)
  intro w1 hm1 htu
  have k1 : ∀ i, i ≠ m → w1.heap[i]? = w.heap[i]? := fun i hi => mapTurned_other htu hi
  have hblk := (k1 c HH.out.c_ne_m).trans HH.out.blk
  have hnh := HH.out.headNode.keep (k1 h (HH.out.m_ne HH.out.headNode))
  have c2 : w1.cell? ⟨c, 2, none⟩ = some (.pointer (some ⟨h, 0, none⟩)) := cell_of_block hblk (by show 2 < 6; decide)
  obtain ⟨x2, hx2⟩ := hnh.cell (o := 2) (by decide)
  obtain ⟨x3, hx3⟩ := hnh.cell (o := 3) (by decide)
  have f2 : w1.frozen? ⟨h, 2, none⟩ = false := hnh.free
  have f3 : w1.frozen? ⟨h, 3, none⟩ = false := hnh.free
  have HBK := Lib.hid hblk
  have HNH := Lib.hid hnh
  have HM1 := Lib.hid hm1
  have HT1 := Lib.hid htu
  clear hblk hnh hm1 htu k1
  have hch : c ≠ h := fun e => HH.out.c_ne okS HH.out.headNode e.symm
  go_wp2
  refine wp_region_ord (fun w' => w'.cell? ⟨c, 2, none⟩ = some (.pointer (some ⟨h, 0, none⟩))) [(0, false), (1, false), (2, false), (3, false), (4, false), (5, false), (6, false), (7, false), (8, false), (9, false), (10, false), (11, false), (12, false), (13, false), (14, false), (15, false), (16, false), (17, false), (18, true), (19, false), (20, false), (21, true)] (by kernel_rfl) (by kernel_rfl) (fun _ _ d _ _ h => by cases d <;> exact h) c2 ?_
  iterate 18
    refine heldL ?_ ?_ (by rfl) (by rfl) (fun w' s1 => ?_) ?_ ?_
    rotate_left 2
    focus (go_simp; exact rfl)
    focus (go_simp; exact rfl)
  refine actSL (by rfl) (by rfl) (fun K hK => ?_)
  go_wp2_with fail
  refine hK _ _ (by go_simp) ?_
  clear hK
  iterate 2
    refine heldL ?_ ?_ (by rfl) (by rfl) (fun w' s1 => ?_) ?_ ?_
    rotate_left 2
    focus (go_simp; exact rfl)
    focus (go_simp; exact rfl)
  refine actL (by kernel_rfl) (by rfl) (by rfl) (fun K hK => ?_)
  go_wp2_with fail
  refine nilL ?_
  go_wp2
  go_end0
  refine ⟨rfl, CRep.emptied okS HBK.out HNH.out (show MapF Try.prog 9 w1 m _ _ from HM1.out), Turn.drew (Turn.setCell (Turn.setCell (Turn.map (Turn.refl _ w) HT1.out (.inl (.inr (.inl rfl)))) (.inl (.inr (.inr ?_))) _) (.inl (.inr (.inr ?_))) _)⟩
  · simp
  · simp

set_option maxHeartbeats 2000000 in
set_option maxRecDepth 100000 in
theorem clearP_calls (c m h : Nat) (most hits misses gone : Int) (L : List (Nat × Int × (ByteArray × Int))) (w : World) (H : CRep IP w c m h most L hits misses gone) :
    Calls Try.prog 48 #[ptr c] w fun r w' => r = .returned (.tuple #[]) ∧ CRep IP w' c m h most [] hits misses gone ∧ Turn (CFp c m h L) w w' := by
  have HH := Lib.hid H
  have c1 : w.cell? ⟨c, 1, none⟩ = some (.map (some m)) := cell_of_block H.blk (by show 1 < 6; decide)
  have HM := Lib.hid (show MapF Try.prog 3 w m _ _ from H.map)
  clear H
  go_enter Try.func48, Try.ntmps48
  go_wp2_with (refine wpList_mapF_clear (by rfl) (.tmp 5) 92 (by rfl) 3 93 Try.underlying92 m _ _ (by rfl) HM.out ?_)
  intro w1 hm1 htu
  have k1 : ∀ i, i ≠ m → w1.heap[i]? = w.heap[i]? := fun i hi => mapTurned_other htu hi
  have hblk := (k1 c HH.out.c_ne_m).trans HH.out.blk
  have hnh := HH.out.headNode.keep (k1 h (HH.out.m_ne HH.out.headNode))
  have c2 : w1.cell? ⟨c, 2, none⟩ = some (.pointer (some ⟨h, 0, none⟩)) := cell_of_block hblk (by show 2 < 6; decide)
  obtain ⟨x2, hx2⟩ := hnh.cell (o := 3) (by decide)
  obtain ⟨x3, hx3⟩ := hnh.cell (o := 4) (by decide)
  have f2 : w1.frozen? ⟨h, 3, none⟩ = false := hnh.free
  have f3 : w1.frozen? ⟨h, 4, none⟩ = false := hnh.free
  have HBK := Lib.hid hblk
  have HNH := Lib.hid hnh
  have HM1 := Lib.hid hm1
  have HT1 := Lib.hid htu
  clear hblk hnh hm1 htu k1
  have hch : c ≠ h := fun e => HH.out.c_ne okP HH.out.headNode e.symm
  go_wp2
  refine wp_region_ord (fun w' => w'.cell? ⟨c, 2, none⟩ = some (.pointer (some ⟨h, 0, none⟩))) [(0, false), (1, false), (2, false), (3, false), (4, false), (5, false), (6, false), (7, false), (8, false), (9, false), (10, false), (11, false), (12, false), (13, false), (14, false), (15, false), (16, false), (17, false), (18, true), (19, false), (20, false), (21, true)] (by kernel_rfl) (by kernel_rfl) (fun _ _ d _ _ h => by cases d <;> exact h) c2 ?_
  iterate 18
    refine heldL ?_ ?_ (by rfl) (by rfl) (fun w' s1 => ?_) ?_ ?_
    rotate_left 2
    focus (go_simp; exact rfl)
    focus (go_simp; exact rfl)
  refine actSL (by rfl) (by rfl) (fun K hK => ?_)
  go_wp2_with fail
  refine hK _ _ (by go_simp) ?_
  clear hK
  iterate 2
    refine heldL ?_ ?_ (by rfl) (by rfl) (fun w' s1 => ?_) ?_ ?_
    rotate_left 2
    focus (go_simp; exact rfl)
    focus (go_simp; exact rfl)
  refine actL (by kernel_rfl) (by rfl) (by rfl) (fun K hK => ?_)
  go_wp2_with fail
  refine nilL ?_
  go_wp2
  go_end0
  refine ⟨rfl, CRep.emptied okP HBK.out HNH.out (show MapF Try.prog 3 w1 m _ _ from HM1.out), Turn.drew (Turn.setCell (Turn.setCell (Turn.map (Turn.refl _ w) HT1.out (.inl (.inr (.inl rfl)))) (.inl (.inr (.inr ?_))) _) (.inl (.inr (.inr ?_))) _)⟩
  · simp
  · simp

set_option maxHeartbeats 2000000 in
set_option maxRecDepth 100000 in
theorem newS_calls (most : Int) (h0 : 0 ≤ most) (h1 : most ≤ 4096) (w : World) :
    Calls Try.prog 9 #[.int .i64 most] w fun r w' => ∃ c m h, r = .returned (ptr c) ∧ CRep IS w' c m h most [] 0 0 0 ∧ w.heap.size ≤ m ∧ w.heap.size ≤ h ∧ w.heap.size ≤ c ∧ Below w.heap.size w w' := by
  have hmm := @run_makeMap Try.prog
  have t1 : decide (most < 0) = false := decide_eq_false (by omega)
  have t2 : decide (4096 < most) = false := decide_eq_false (by omega)
  go_enter Try.func9, Try.ntmps9
  go_wp2
  have hall : ∀ w1, w1 = (((w.alloc (.map #[] 0)).alloc (.cells #[.string ⟨#[]⟩, .string ⟨#[]⟩, .pointer none, .pointer none] 65)).alloc (.cells #[.int .i64 most, .map (some w.heap.size), .pointer (some ⟨w.heap.size + 1, 0, none⟩), .int .i64 0, .int .i64 0, .int .i64 0] 67)) →
      w1.heap[w.heap.size + 1 + 1]? = some (.cells #[.int .i64 most, .map (some w.heap.size), .pointer (some ⟨w.heap.size + 1, 0, none⟩), .int .i64 0, .int .i64 0, .int .i64 0] 67 (0, 0)) ∧ Node 65 4 w1 (w.heap.size + 1) ∧ MapF Try.prog 9 w1 w.heap.size (fun _ => none) 0 ∧ Below w.heap.size w w1 := by
    rintro w1 rfl
    refine ⟨?_, ⟨#[.string ⟨#[]⟩, .string ⟨#[]⟩, .pointer none, .pointer none], ?_, rfl⟩, ?_, ?_⟩
    · have := (MapKept.heap_alloc ((w.alloc (.map #[] 0)).alloc (.cells #[.string ⟨#[]⟩, .string ⟨#[]⟩, .pointer none, .pointer none] 65)) (.cells #[.int .i64 most, .map (some w.heap.size), .pointer (some ⟨w.heap.size + 1, 0, none⟩), .int .i64 0, .int .i64 0, .int .i64 0] 67)).1
      simpa using this
    · rw [Below.heap_alloc _ _ _ (by simp)]
      have := (MapKept.heap_alloc (w.alloc (.map #[] 0)) (.cells #[.string ⟨#[]⟩, .string ⟨#[]⟩, .pointer none, .pointer none] 65)).1
      simpa using this
    · exact ((MapF.made Try.prog 9 w).keep (Below.heap_alloc _ _ _ (by simp))).keep (Below.heap_alloc _ _ _ (by simp; omega))
    · exact (((Below.refl _ _).alloc (Nat.le_refl _) _).alloc (by simp) _).alloc (by simp; omega) _
  obtain ⟨w1, hw1⟩ : ∃ w1, w1 = (((w.alloc (.map #[] 0)).alloc (.cells #[.string ⟨#[]⟩, .string ⟨#[]⟩, .pointer none, .pointer none] 65)).alloc (.cells #[.int .i64 most, .map (some w.heap.size), .pointer (some ⟨w.heap.size + 1, 0, none⟩), .int .i64 0, .int .i64 0, .int .i64 0] 67)) := ⟨_, rfl⟩
  obtain ⟨g1, g2, g3, g4⟩ := hall w1 hw1
  rw [← hw1]
  clear hall hw1 hmm t1 t2
  obtain ⟨c, hc⟩ : ∃ c, c = w.heap.size + 1 + 1 := ⟨_, rfl⟩
  obtain ⟨h, hh⟩ : ∃ h, h = w.heap.size + 1 := ⟨_, rfl⟩
  obtain ⟨m, hm⟩ : ∃ m, m = w.heap.size := ⟨_, rfl⟩
  have HB : Hid (w.heap.size ≤ h ∧ w.heap.size ≤ c ∧ c ≠ h ∧ w.heap.size ≤ m) := Lib.hid ⟨by omega, by omega, by omega, by omega⟩
  have G4 := Lib.hid g4
  rw [← hc, ← hh] at g1 ⊢
  rw [← hh] at g2
  rw [← hm] at g1 g3 ⊢
  clear hc hh g4 hm
  have c2 : w1.cell? ⟨c, 2, none⟩ = some (.pointer (some ⟨h, 0, none⟩)) := cell_of_block g1 (by show 2 < 6; decide)
  obtain ⟨x2, hx2⟩ := g2.cell (o := 2) (by decide)
  obtain ⟨x3, hx3⟩ := g2.cell (o := 3) (by decide)
  have f2 : w1.frozen? ⟨h, 2, none⟩ = false := g2.free
  have f3 : w1.frozen? ⟨h, 3, none⟩ = false := g2.free
  have hch : c ≠ h := HB.out.2.2.1
  have G1 := Lib.hid g1
  have G2 := Lib.hid g2
  have G3 := Lib.hid g3
  clear g1 g2 g3
  refine wp_region_ord (fun w' => w'.cell? ⟨c, 2, none⟩ = some (.pointer (some ⟨h, 0, none⟩))) [(0, false), (1, false), (2, false), (3, false), (4, false), (5, false), (6, false), (7, false), (8, false), (9, false), (10, false), (11, false), (12, false), (13, false), (14, false), (15, false), (16, false), (17, false), (18, true), (19, false), (20, false), (21, true)] (by kernel_rfl) (by kernel_rfl) (fun _ _ d _ _ h => by cases d <;> exact h) c2 ?_
  iterate 18
    refine heldL ?_ ?_ (by rfl) (by rfl) (fun w' s1 => ?_) ?_ ?_
    rotate_left 2
    focus (go_simp; exact rfl)
    focus (go_simp; exact rfl)
  refine actSL (by rfl) (by rfl) (fun K hK => ?_)
  go_wp2_with fail
  refine hK _ _ (by go_simp) ?_
  clear hK
  iterate 2
    refine heldL ?_ ?_ (by rfl) (by rfl) (fun w' s1 => ?_) ?_ ?_
    rotate_left 2
    focus (go_simp; exact rfl)
    focus (go_simp; exact rfl)
  refine actL (by kernel_rfl) (by rfl) (by rfl) (fun K hK => ?_)
  go_wp2_with fail
  refine nilL ?_
  go_wp2
  go_ret
  exact ⟨c, m, h, rfl, CRep.emptied okS G1.out G2.out (show MapF Try.prog 9 w1 m _ _ from G3.out), HB.out.2.2.2, HB.out.1, HB.out.2.1, ((G4.out.setCell (p := ⟨h, 2, none⟩) HB.out.1 _).setCell (p := ⟨h, 3, none⟩) HB.out.1 _).drew⟩
theorem newS_no (most : Int) (h : most < 0 ∨ 4096 < most) (w : World) :
    Calls Try.prog 9 #[.int .i64 most] w fun r w' => r = .returned (.pointer none) ∧ w = w' := by
  rcases h with h | h
  · have t1 : decide (most < 0) = true := decide_eq_true h
    go_enter Try.func9, Try.ntmps9
    go_wp2
    go_ret
    exact ⟨rfl, rfl⟩
  · have t1 : decide (most < 0) = false := decide_eq_false (by omega)
    have t2 : decide (4096 < most) = true := decide_eq_true h
    go_enter Try.func9, Try.ntmps9
    go_wp2
    go_ret
    exact ⟨rfl, rfl⟩

set_option maxHeartbeats 2000000 in
set_option maxRecDepth 100000 in
theorem newP_calls (most : Int) (h0 : 0 ≤ most) (h1 : most ≤ 4096) (w : World) :
    Calls Try.prog 29 #[.int .i64 most] w fun r w' => ∃ c m h, r = .returned (ptr c) ∧ CRep IP w' c m h most [] 0 0 0 ∧ w.heap.size ≤ m ∧ w.heap.size ≤ h ∧ w.heap.size ≤ c ∧ Below w.heap.size w w' := by
  have hmm := @run_makeMap Try.prog
  have t1 : decide (most < 0) = false := decide_eq_false (by omega)
  have t2 : decide (4096 < most) = false := decide_eq_false (by omega)
  go_enter Try.func29, Try.ntmps29
  go_wp2
  have hall : ∀ w1, w1 = (((w.alloc (.map #[] 0)).alloc (.cells #[.int .i64 0, .string ⟨#[]⟩, .int .i64 0, .pointer none, .pointer none] 95)).alloc (.cells #[.int .i64 most, .map (some w.heap.size), .pointer (some ⟨w.heap.size + 1, 0, none⟩), .int .i64 0, .int .i64 0, .int .i64 0] 97)) →
      w1.heap[w.heap.size + 1 + 1]? = some (.cells #[.int .i64 most, .map (some w.heap.size), .pointer (some ⟨w.heap.size + 1, 0, none⟩), .int .i64 0, .int .i64 0, .int .i64 0] 97 (0, 0)) ∧ Node 95 5 w1 (w.heap.size + 1) ∧ MapF Try.prog 3 w1 w.heap.size (fun _ => none) 0 ∧ Below w.heap.size w w1 := by
    rintro w1 rfl
    refine ⟨?_, ⟨#[.int .i64 0, .string ⟨#[]⟩, .int .i64 0, .pointer none, .pointer none], ?_, rfl⟩, ?_, ?_⟩
    · have := (MapKept.heap_alloc ((w.alloc (.map #[] 0)).alloc (.cells #[.int .i64 0, .string ⟨#[]⟩, .int .i64 0, .pointer none, .pointer none] 95)) (.cells #[.int .i64 most, .map (some w.heap.size), .pointer (some ⟨w.heap.size + 1, 0, none⟩), .int .i64 0, .int .i64 0, .int .i64 0] 97)).1
      simpa using this
    · rw [Below.heap_alloc _ _ _ (by simp)]
      have := (MapKept.heap_alloc (w.alloc (.map #[] 0)) (.cells #[.int .i64 0, .string ⟨#[]⟩, .int .i64 0, .pointer none, .pointer none] 95)).1
      simpa using this
    · exact ((MapF.made Try.prog 3 w).keep (Below.heap_alloc _ _ _ (by simp))).keep (Below.heap_alloc _ _ _ (by simp; omega))
    · exact (((Below.refl _ _).alloc (Nat.le_refl _) _).alloc (by simp) _).alloc (by simp; omega) _
  obtain ⟨w1, hw1⟩ : ∃ w1, w1 = (((w.alloc (.map #[] 0)).alloc (.cells #[.int .i64 0, .string ⟨#[]⟩, .int .i64 0, .pointer none, .pointer none] 95)).alloc (.cells #[.int .i64 most, .map (some w.heap.size), .pointer (some ⟨w.heap.size + 1, 0, none⟩), .int .i64 0, .int .i64 0, .int .i64 0] 97)) := ⟨_, rfl⟩
  obtain ⟨g1, g2, g3, g4⟩ := hall w1 hw1
  rw [← hw1]
  clear hall hw1 hmm t1 t2
  obtain ⟨c, hc⟩ : ∃ c, c = w.heap.size + 1 + 1 := ⟨_, rfl⟩
  obtain ⟨h, hh⟩ : ∃ h, h = w.heap.size + 1 := ⟨_, rfl⟩
  obtain ⟨m, hm⟩ : ∃ m, m = w.heap.size := ⟨_, rfl⟩
  have HB : Hid (w.heap.size ≤ h ∧ w.heap.size ≤ c ∧ c ≠ h ∧ w.heap.size ≤ m) := Lib.hid ⟨by omega, by omega, by omega, by omega⟩
  have G4 := Lib.hid g4
  rw [← hc, ← hh] at g1 ⊢
  rw [← hh] at g2
  rw [← hm] at g1 g3 ⊢
  clear hc hh g4 hm
  have c2 : w1.cell? ⟨c, 2, none⟩ = some (.pointer (some ⟨h, 0, none⟩)) := cell_of_block g1 (by show 2 < 6; decide)
  obtain ⟨x2, hx2⟩ := g2.cell (o := 3) (by decide)
  obtain ⟨x3, hx3⟩ := g2.cell (o := 4) (by decide)
  have f2 : w1.frozen? ⟨h, 3, none⟩ = false := g2.free
  have f3 : w1.frozen? ⟨h, 4, none⟩ = false := g2.free
  have hch : c ≠ h := HB.out.2.2.1
  have G1 := Lib.hid g1
  have G2 := Lib.hid g2
  have G3 := Lib.hid g3
  clear g1 g2 g3
  refine wp_region_ord (fun w' => w'.cell? ⟨c, 2, none⟩ = some (.pointer (some ⟨h, 0, none⟩))) [(0, false), (1, false), (2, false), (3, false), (4, false), (5, false), (6, false), (7, false), (8, false), (9, false), (10, false), (11, false), (12, false), (13, false), (14, false), (15, false), (16, false), (17, false), (18, true), (19, false), (20, false), (21, true)] (by kernel_rfl) (by kernel_rfl) (fun _ _ d _ _ h => by cases d <;> exact h) c2 ?_
  iterate 18
    refine heldL ?_ ?_ (by rfl) (by rfl) (fun w' s1 => ?_) ?_ ?_
    rotate_left 2
    focus (go_simp; exact rfl)
    focus (go_simp; exact rfl)
  refine actSL (by rfl) (by rfl) (fun K hK => ?_)
  go_wp2_with fail
  refine hK _ _ (by go_simp) ?_
  clear hK
  iterate 2
    refine heldL ?_ ?_ (by rfl) (by rfl) (fun w' s1 => ?_) ?_ ?_
    rotate_left 2
    focus (go_simp; exact rfl)
    focus (go_simp; exact rfl)
  refine actL (by kernel_rfl) (by rfl) (by rfl) (fun K hK => ?_)
  go_wp2_with fail
  refine nilL ?_
  go_wp2
  go_ret
  exact ⟨c, m, h, rfl, CRep.emptied okP G1.out G2.out (show MapF Try.prog 3 w1 m _ _ from G3.out), HB.out.2.2.2, HB.out.1, HB.out.2.1, ((G4.out.setCell (p := ⟨h, 3, none⟩) HB.out.1 _).setCell (p := ⟨h, 4, none⟩) HB.out.1 _).drew⟩
theorem newP_no (most : Int) (h : most < 0 ∨ 4096 < most) (w : World) :
    Calls Try.prog 29 #[.int .i64 most] w fun r w' => r = .returned (.pointer none) ∧ w = w' := by
  rcases h with h | h
  · have t1 : decide (most < 0) = true := decide_eq_true h
    go_enter Try.func29, Try.ntmps29
    go_wp2
    go_ret
    exact ⟨rfl, rfl⟩
  · have t1 : decide (most < 0) = false := decide_eq_false (by omega)
    have t2 : decide (4096 < most) = true := decide_eq_true h
    go_enter Try.func29, Try.ntmps29
    go_wp2
    go_ret
    exact ⟨rfl, rfl⟩

set_option maxHeartbeats 2000000 in
set_option maxRecDepth 100000 in
theorem newB_calls (most : Int) (h0 : 0 ≤ most) (h1 : most ≤ 4096) (w : World) :
    Calls Try.prog 10 #[.int .i64 most] w fun r w' => ∃ c, r = .returned (ptr c) ∧ Below w.heap.size w w' := by
  have hmm := @run_makeMap Try.prog
  have t1 : decide (most < 0) = false := decide_eq_false (by omega)
  have t2 : decide (4096 < most) = false := decide_eq_false (by omega)
  go_enter Try.func10, Try.ntmps10
  go_wp2
  have hall : ∀ w1, w1 = (((w.alloc (.map #[] 0)).alloc (.cells #[.int .i64 0, .bool false, .pointer none, .pointer none] 71)).alloc (.cells #[.int .i64 most, .map (some w.heap.size), .pointer (some ⟨w.heap.size + 1, 0, none⟩), .int .i64 0, .int .i64 0, .int .i64 0] 73)) →
      w1.heap[w.heap.size + 1 + 1]? = some (.cells #[.int .i64 most, .map (some w.heap.size), .pointer (some ⟨w.heap.size + 1, 0, none⟩), .int .i64 0, .int .i64 0, .int .i64 0] 73 (0, 0)) ∧ Node 71 4 w1 (w.heap.size + 1) ∧ MapF Try.prog 3 w1 w.heap.size (fun _ => none) 0 ∧ Below w.heap.size w w1 := by
    rintro w1 rfl
    refine ⟨?_, ⟨#[.int .i64 0, .bool false, .pointer none, .pointer none], ?_, rfl⟩, ?_, ?_⟩
    · have := (MapKept.heap_alloc ((w.alloc (.map #[] 0)).alloc (.cells #[.int .i64 0, .bool false, .pointer none, .pointer none] 71)) (.cells #[.int .i64 most, .map (some w.heap.size), .pointer (some ⟨w.heap.size + 1, 0, none⟩), .int .i64 0, .int .i64 0, .int .i64 0] 73)).1
      simpa using this
    · rw [Below.heap_alloc _ _ _ (by simp)]
      have := (MapKept.heap_alloc (w.alloc (.map #[] 0)) (.cells #[.int .i64 0, .bool false, .pointer none, .pointer none] 71)).1
      simpa using this
    · exact ((MapF.made Try.prog 3 w).keep (Below.heap_alloc _ _ _ (by simp))).keep (Below.heap_alloc _ _ _ (by simp; omega))
    · exact (((Below.refl _ _).alloc (Nat.le_refl _) _).alloc (by simp) _).alloc (by simp; omega) _
  obtain ⟨w1, hw1⟩ : ∃ w1, w1 = (((w.alloc (.map #[] 0)).alloc (.cells #[.int .i64 0, .bool false, .pointer none, .pointer none] 71)).alloc (.cells #[.int .i64 most, .map (some w.heap.size), .pointer (some ⟨w.heap.size + 1, 0, none⟩), .int .i64 0, .int .i64 0, .int .i64 0] 73)) := ⟨_, rfl⟩
  obtain ⟨g1, g2, g3, g4⟩ := hall w1 hw1
  rw [← hw1]
  clear hall hw1 hmm t1 t2
  obtain ⟨c, hc⟩ : ∃ c, c = w.heap.size + 1 + 1 := ⟨_, rfl⟩
  obtain ⟨h, hh⟩ : ∃ h, h = w.heap.size + 1 := ⟨_, rfl⟩
  obtain ⟨m, hm⟩ : ∃ m, m = w.heap.size := ⟨_, rfl⟩
  have HB : Hid (w.heap.size ≤ h ∧ w.heap.size ≤ c ∧ c ≠ h ∧ w.heap.size ≤ m) := Lib.hid ⟨by omega, by omega, by omega, by omega⟩
  have G4 := Lib.hid g4
  rw [← hc, ← hh] at g1 ⊢
  rw [← hh] at g2
  rw [← hm] at g1 g3 ⊢
  clear hc hh g4 hm
  have c2 : w1.cell? ⟨c, 2, none⟩ = some (.pointer (some ⟨h, 0, none⟩)) := cell_of_block g1 (by show 2 < 6; decide)
  obtain ⟨x2, hx2⟩ := g2.cell (o := 2) (by decide)
  obtain ⟨x3, hx3⟩ := g2.cell (o := 3) (by decide)
  have f2 : w1.frozen? ⟨h, 2, none⟩ = false := g2.free
  have f3 : w1.frozen? ⟨h, 3, none⟩ = false := g2.free
  have hch : c ≠ h := HB.out.2.2.1
  have G1 := Lib.hid g1
  have G2 := Lib.hid g2
  have G3 := Lib.hid g3
  clear g1 g2 g3
  refine wp_region_ord (fun w' => w'.cell? ⟨c, 2, none⟩ = some (.pointer (some ⟨h, 0, none⟩))) [(0, false), (1, false), (2, false), (3, false), (4, false), (5, false), (6, false), (7, false), (8, false), (9, false), (10, false), (11, false), (12, false), (13, false), (14, false), (15, false), (16, false), (17, false), (18, true), (19, false), (20, false), (21, true)] (by kernel_rfl) (by kernel_rfl) (fun _ _ d _ _ h => by cases d <;> exact h) c2 ?_
  iterate 18
    refine heldL ?_ ?_ (by rfl) (by rfl) (fun w' s1 => ?_) ?_ ?_
    rotate_left 2
    focus (go_simp; exact rfl)
    focus (go_simp; exact rfl)
  refine actSL (by rfl) (by rfl) (fun K hK => ?_)
  go_wp2_with fail
  refine hK _ _ (by go_simp) ?_
  clear hK
  iterate 2
    refine heldL ?_ ?_ (by rfl) (by rfl) (fun w' s1 => ?_) ?_ ?_
    rotate_left 2
    focus (go_simp; exact rfl)
    focus (go_simp; exact rfl)
  refine actL (by kernel_rfl) (by rfl) (by rfl) (fun K hK => ?_)
  go_wp2_with fail
  refine nilL ?_
  go_wp2
  go_ret
  exact ⟨c, rfl, ((G4.out.setCell (p := ⟨h, 2, none⟩) HB.out.1 _).setCell (p := ⟨h, 3, none⟩) HB.out.1 _).drew⟩
theorem newB_no (most : Int) (h : most < 0 ∨ 4096 < most) (w : World) :
    Calls Try.prog 10 #[.int .i64 most] w fun r w' => r = .returned (.pointer none) ∧ w = w' := by
  rcases h with h | h
  · have t1 : decide (most < 0) = true := decide_eq_true h
    go_enter Try.func10, Try.ntmps10
    go_wp2
    go_ret
    exact ⟨rfl, rfl⟩
  · have t1 : decide (most < 0) = false := decide_eq_false (by omega)
    have t2 : decide (4096 < most) = true := decide_eq_true h
    go_enter Try.func10, Try.ntmps10
    go_wp2
    go_ret
    exact ⟨rfl, rfl⟩

set_option maxHeartbeats 2000000 in
set_option maxRecDepth 100000 in
theorem newI_calls (most : Int) (h0 : 0 ≤ most) (h1 : most ≤ 4096) (w : World) :
    Calls Try.prog 11 #[.int .i64 most] w fun r w' => ∃ c, r = .returned (ptr c) ∧ Below w.heap.size w w' := by
  have hmm := @run_makeMap Try.prog
  have t1 : decide (most < 0) = false := decide_eq_false (by omega)
  have t2 : decide (4096 < most) = false := decide_eq_false (by omega)
  go_enter Try.func11, Try.ntmps11
  go_wp2
  have hall : ∀ w1, w1 = (((w.alloc (.map #[] 0)).alloc (.cells #[.string ⟨#[]⟩, .int .i64 0, .pointer none, .pointer none] 77)).alloc (.cells #[.int .i64 most, .map (some w.heap.size), .pointer (some ⟨w.heap.size + 1, 0, none⟩), .int .i64 0, .int .i64 0, .int .i64 0] 79)) →
      w1.heap[w.heap.size + 1 + 1]? = some (.cells #[.int .i64 most, .map (some w.heap.size), .pointer (some ⟨w.heap.size + 1, 0, none⟩), .int .i64 0, .int .i64 0, .int .i64 0] 79 (0, 0)) ∧ Node 77 4 w1 (w.heap.size + 1) ∧ MapF Try.prog 9 w1 w.heap.size (fun _ => none) 0 ∧ Below w.heap.size w w1 := by
    rintro w1 rfl
    refine ⟨?_, ⟨#[.string ⟨#[]⟩, .int .i64 0, .pointer none, .pointer none], ?_, rfl⟩, ?_, ?_⟩
    · have := (MapKept.heap_alloc ((w.alloc (.map #[] 0)).alloc (.cells #[.string ⟨#[]⟩, .int .i64 0, .pointer none, .pointer none] 77)) (.cells #[.int .i64 most, .map (some w.heap.size), .pointer (some ⟨w.heap.size + 1, 0, none⟩), .int .i64 0, .int .i64 0, .int .i64 0] 79)).1
      simpa using this
    · rw [Below.heap_alloc _ _ _ (by simp)]
      have := (MapKept.heap_alloc (w.alloc (.map #[] 0)) (.cells #[.string ⟨#[]⟩, .int .i64 0, .pointer none, .pointer none] 77)).1
      simpa using this
    · exact ((MapF.made Try.prog 9 w).keep (Below.heap_alloc _ _ _ (by simp))).keep (Below.heap_alloc _ _ _ (by simp; omega))
    · exact (((Below.refl _ _).alloc (Nat.le_refl _) _).alloc (by simp) _).alloc (by simp; omega) _
  obtain ⟨w1, hw1⟩ : ∃ w1, w1 = (((w.alloc (.map #[] 0)).alloc (.cells #[.string ⟨#[]⟩, .int .i64 0, .pointer none, .pointer none] 77)).alloc (.cells #[.int .i64 most, .map (some w.heap.size), .pointer (some ⟨w.heap.size + 1, 0, none⟩), .int .i64 0, .int .i64 0, .int .i64 0] 79)) := ⟨_, rfl⟩
  obtain ⟨g1, g2, g3, g4⟩ := hall w1 hw1
  rw [← hw1]
  clear hall hw1 hmm t1 t2
  obtain ⟨c, hc⟩ : ∃ c, c = w.heap.size + 1 + 1 := ⟨_, rfl⟩
  obtain ⟨h, hh⟩ : ∃ h, h = w.heap.size + 1 := ⟨_, rfl⟩
  obtain ⟨m, hm⟩ : ∃ m, m = w.heap.size := ⟨_, rfl⟩
  have HB : Hid (w.heap.size ≤ h ∧ w.heap.size ≤ c ∧ c ≠ h ∧ w.heap.size ≤ m) := Lib.hid ⟨by omega, by omega, by omega, by omega⟩
  have G4 := Lib.hid g4
  rw [← hc, ← hh] at g1 ⊢
  rw [← hh] at g2
  rw [← hm] at g1 g3 ⊢
  clear hc hh g4 hm
  have c2 : w1.cell? ⟨c, 2, none⟩ = some (.pointer (some ⟨h, 0, none⟩)) := cell_of_block g1 (by show 2 < 6; decide)
  obtain ⟨x2, hx2⟩ := g2.cell (o := 2) (by decide)
  obtain ⟨x3, hx3⟩ := g2.cell (o := 3) (by decide)
  have f2 : w1.frozen? ⟨h, 2, none⟩ = false := g2.free
  have f3 : w1.frozen? ⟨h, 3, none⟩ = false := g2.free
  have hch : c ≠ h := HB.out.2.2.1
  have G1 := Lib.hid g1
  have G2 := Lib.hid g2
  have G3 := Lib.hid g3
  clear g1 g2 g3
  refine wp_region_ord (fun w' => w'.cell? ⟨c, 2, none⟩ = some (.pointer (some ⟨h, 0, none⟩))) [(0, false), (1, false), (2, false), (3, false), (4, false), (5, false), (6, false), (7, false), (8, false), (9, false), (10, false), (11, false), (12, false), (13, false), (14, false), (15, false), (16, false), (17, false), (18, true), (19, false), (20, false), (21, true)] (by kernel_rfl) (by kernel_rfl) (fun _ _ d _ _ h => by cases d <;> exact h) c2 ?_
  iterate 18
    refine heldL ?_ ?_ (by rfl) (by rfl) (fun w' s1 => ?_) ?_ ?_
    rotate_left 2
    focus (go_simp; exact rfl)
    focus (go_simp; exact rfl)
  refine actSL (by rfl) (by rfl) (fun K hK => ?_)
  go_wp2_with fail
  refine hK _ _ (by go_simp) ?_
  clear hK
  iterate 2
    refine heldL ?_ ?_ (by rfl) (by rfl) (fun w' s1 => ?_) ?_ ?_
    rotate_left 2
    focus (go_simp; exact rfl)
    focus (go_simp; exact rfl)
  refine actL (by kernel_rfl) (by rfl) (by rfl) (fun K hK => ?_)
  go_wp2_with fail
  refine nilL ?_
  go_wp2
  go_ret
  exact ⟨c, rfl, ((G4.out.setCell (p := ⟨h, 2, none⟩) HB.out.1 _).setCell (p := ⟨h, 3, none⟩) HB.out.1 _).drew⟩
theorem newI_no (most : Int) (h : most < 0 ∨ 4096 < most) (w : World) :
    Calls Try.prog 11 #[.int .i64 most] w fun r w' => r = .returned (.pointer none) ∧ w = w' := by
  rcases h with h | h
  · have t1 : decide (most < 0) = true := decide_eq_true h
    go_enter Try.func11, Try.ntmps11
    go_wp2
    go_ret
    exact ⟨rfl, rfl⟩
  · have t1 : decide (most < 0) = false := decide_eq_false (by omega)
    have t2 : decide (4096 < most) = true := decide_eq_true h
    go_enter Try.func11, Try.ntmps11
    go_wp2
    go_ret
    exact ⟨rfl, rfl⟩

set_option maxHeartbeats 2000000 in
set_option maxRecDepth 100000 in
theorem newL_calls (most : Int) (h0 : 0 ≤ most) (h1 : most ≤ 4096) (w : World) :
    Calls Try.prog 12 #[.int .i64 most] w fun r w' => ∃ c, r = .returned (ptr c) ∧ Below w.heap.size w w' := by
  have hmm := @run_makeMap Try.prog
  have t1 : decide (most < 0) = false := decide_eq_false (by omega)
  have t2 : decide (4096 < most) = false := decide_eq_false (by omega)
  go_enter Try.func12, Try.ntmps12
  go_wp2
  have hall : ∀ w1, w1 = (((w.alloc (.map #[] 0)).alloc (.cells #[.int .i64 0, .slice none 0 0, .pointer none, .pointer none] 83)).alloc (.cells #[.int .i64 most, .map (some w.heap.size), .pointer (some ⟨w.heap.size + 1, 0, none⟩), .int .i64 0, .int .i64 0, .int .i64 0] 85)) →
      w1.heap[w.heap.size + 1 + 1]? = some (.cells #[.int .i64 most, .map (some w.heap.size), .pointer (some ⟨w.heap.size + 1, 0, none⟩), .int .i64 0, .int .i64 0, .int .i64 0] 85 (0, 0)) ∧ Node 83 4 w1 (w.heap.size + 1) ∧ MapF Try.prog 3 w1 w.heap.size (fun _ => none) 0 ∧ Below w.heap.size w w1 := by
    rintro w1 rfl
    refine ⟨?_, ⟨#[.int .i64 0, .slice none 0 0, .pointer none, .pointer none], ?_, rfl⟩, ?_, ?_⟩
    · have := (MapKept.heap_alloc ((w.alloc (.map #[] 0)).alloc (.cells #[.int .i64 0, .slice none 0 0, .pointer none, .pointer none] 83)) (.cells #[.int .i64 most, .map (some w.heap.size), .pointer (some ⟨w.heap.size + 1, 0, none⟩), .int .i64 0, .int .i64 0, .int .i64 0] 85)).1
      simpa using this
    · rw [Below.heap_alloc _ _ _ (by simp)]
      have := (MapKept.heap_alloc (w.alloc (.map #[] 0)) (.cells #[.int .i64 0, .slice none 0 0, .pointer none, .pointer none] 83)).1
      simpa using this
    · exact ((MapF.made Try.prog 3 w).keep (Below.heap_alloc _ _ _ (by simp))).keep (Below.heap_alloc _ _ _ (by simp; omega))
    · exact (((Below.refl _ _).alloc (Nat.le_refl _) _).alloc (by simp) _).alloc (by simp; omega) _
  obtain ⟨w1, hw1⟩ : ∃ w1, w1 = (((w.alloc (.map #[] 0)).alloc (.cells #[.int .i64 0, .slice none 0 0, .pointer none, .pointer none] 83)).alloc (.cells #[.int .i64 most, .map (some w.heap.size), .pointer (some ⟨w.heap.size + 1, 0, none⟩), .int .i64 0, .int .i64 0, .int .i64 0] 85)) := ⟨_, rfl⟩
  obtain ⟨g1, g2, g3, g4⟩ := hall w1 hw1
  rw [← hw1]
  clear hall hw1 hmm t1 t2
  obtain ⟨c, hc⟩ : ∃ c, c = w.heap.size + 1 + 1 := ⟨_, rfl⟩
  obtain ⟨h, hh⟩ : ∃ h, h = w.heap.size + 1 := ⟨_, rfl⟩
  obtain ⟨m, hm⟩ : ∃ m, m = w.heap.size := ⟨_, rfl⟩
  have HB : Hid (w.heap.size ≤ h ∧ w.heap.size ≤ c ∧ c ≠ h ∧ w.heap.size ≤ m) := Lib.hid ⟨by omega, by omega, by omega, by omega⟩
  have G4 := Lib.hid g4
  rw [← hc, ← hh] at g1 ⊢
  rw [← hh] at g2
  rw [← hm] at g1 g3 ⊢
  clear hc hh g4 hm
  have c2 : w1.cell? ⟨c, 2, none⟩ = some (.pointer (some ⟨h, 0, none⟩)) := cell_of_block g1 (by show 2 < 6; decide)
  obtain ⟨x2, hx2⟩ := g2.cell (o := 2) (by decide)
  obtain ⟨x3, hx3⟩ := g2.cell (o := 3) (by decide)
  have f2 : w1.frozen? ⟨h, 2, none⟩ = false := g2.free
  have f3 : w1.frozen? ⟨h, 3, none⟩ = false := g2.free
  have hch : c ≠ h := HB.out.2.2.1
  have G1 := Lib.hid g1
  have G2 := Lib.hid g2
  have G3 := Lib.hid g3
  clear g1 g2 g3
  refine wp_region_ord (fun w' => w'.cell? ⟨c, 2, none⟩ = some (.pointer (some ⟨h, 0, none⟩))) [(0, false), (1, false), (2, false), (3, false), (4, false), (5, false), (6, false), (7, false), (8, false), (9, false), (10, false), (11, false), (12, false), (13, false), (14, false), (15, false), (16, false), (17, false), (18, true), (19, false), (20, false), (21, true)] (by kernel_rfl) (by kernel_rfl) (fun _ _ d _ _ h => by cases d <;> exact h) c2 ?_
  iterate 18
    refine heldL ?_ ?_ (by rfl) (by rfl) (fun w' s1 => ?_) ?_ ?_
    rotate_left 2
    focus (go_simp; exact rfl)
    focus (go_simp; exact rfl)
  refine actSL (by rfl) (by rfl) (fun K hK => ?_)
  go_wp2_with fail
  refine hK _ _ (by go_simp) ?_
  clear hK
  iterate 2
    refine heldL ?_ ?_ (by rfl) (by rfl) (fun w' s1 => ?_) ?_ ?_
    rotate_left 2
    focus (go_simp; exact rfl)
    focus (go_simp; exact rfl)
  refine actL (by kernel_rfl) (by rfl) (by rfl) (fun K hK => ?_)
  go_wp2_with fail
  refine nilL ?_
  go_wp2
  go_ret
  exact ⟨c, rfl, ((G4.out.setCell (p := ⟨h, 2, none⟩) HB.out.1 _).setCell (p := ⟨h, 3, none⟩) HB.out.1 _).drew⟩
theorem newL_no (most : Int) (h : most < 0 ∨ 4096 < most) (w : World) :
    Calls Try.prog 12 #[.int .i64 most] w fun r w' => r = .returned (.pointer none) ∧ w = w' := by
  rcases h with h | h
  · have t1 : decide (most < 0) = true := decide_eq_true h
    go_enter Try.func12, Try.ntmps12
    go_wp2
    go_ret
    exact ⟨rfl, rfl⟩
  · have t1 : decide (most < 0) = false := decide_eq_false (by omega)
    have t2 : decide (4096 < most) = true := decide_eq_true h
    go_enter Try.func12, Try.ntmps12
    go_wp2
    go_ret
    exact ⟨rfl, rfl⟩
end Go.Proofs.Ytfkdmbiejledoaa
