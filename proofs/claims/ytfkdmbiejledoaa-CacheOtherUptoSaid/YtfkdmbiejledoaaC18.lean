/-
  Put of P.
-/
import Derived.Test.YtfkdmbiejledoaaC16
import Derived.Test.YtfkdmbiejledoaaC4
set_option linter.unusedVariables false
set_option linter.unusedSimpArgs false
namespace Go.Proofs.Ytfkdmbiejledoaa
open Go.RowKit


theorem mem_blkP {h b : Nat} {k : Int} {v : ByteArray × Int} {xs ys : List (Nat × Int × (ByteArray × Int))} : b ∈ h :: (xs ++ (b, k, v) :: ys).map (·.1) :=
  List.mem_cons_of_mem _ (List.mem_map_of_mem (f := fun x : Nat × Int × (ByteArray × Int) => x.1) (a := (b, k, v)) (by simp))
/-- another value under the same key -/
theorem CRep.valuedP (c m h b : Nat) (most hits misses gone : Int) (k : Int) (v : ByteArray × Int) (s2 : ByteArray) (z2 : Int) (xs ys : List (Nat × Int × (ByteArray × Int))) (w : World) (H : CRep IP w c m h most (xs ++ (b, k, v) :: ys) hits misses gone) :
    CRep IP ((w.setCell ⟨b, 1, none⟩ (.string s2)).setCell ⟨b, 2, none⟩ (.int .i64 z2)) c m h most (xs ++ (b, k, (s2, z2)) :: ys) hits misses gone := by
  have hb : b ∈ h :: (xs ++ (b, k, v) :: ys).map (·.1) := mem_blkP
  have hnb := H.ring.node b hb
  have hbc := H.c_ne okP hnb
  have hbm := H.m_ne hnb
  have e1 : (xs ++ (b, k, (s2, z2)) :: ys).map (fun x : Nat × Int × (ByteArray × Int) => x.1) = (xs ++ (b, k, v) :: ys).map (·.1) := by simp
  have e2 : (xs ++ (b, k, (s2, z2)) :: ys).map (fun x : Nat × Int × (ByteArray × Int) => x.2.1) = (xs ++ (b, k, v) :: ys).map (·.2.1) := by simp
  have hks := (keys_split H.keys).2.1
  have hoff : ∀ i o, o ≠ 1 → o ≠ 2 → ((w.setCell ⟨b, 1, none⟩ (.string s2)).setCell ⟨b, 2, none⟩ (.int .i64 z2)).cell? ⟨i, o, none⟩ = w.cell? ⟨i, o, none⟩ := fun i o h1 h2 => (cell_set_off _ (.inr h2)).trans (cell_set_off _ (.inr h1))
  have hnd := (List.nodup_cons.1 H.ring.nodup).2
  rw [List.map_append, List.map_cons] at hnd
  have hnot : b ∉ (xs ++ ys).map (·.1) := by rw [List.map_append]; exact mid_out hnd
  refine ⟨(block_other hbc _).trans ((block_other hbc _).trans H.blk), ⟨by rw [e1]; exact H.ring.nodup, fun i hi => ((H.ring.node i (by rwa [e1] at hi)).setCell _ _ _).setCell _ _ _, by rw [e1]; exact H.ring.chain.congr (fun x _ => hoff x _ (by show (4 : Nat) ≠ 1; decide) (by show (4 : Nat) ≠ 2; decide)) (fun x _ => hoff x _ (by show (3 : Nat) ≠ 1; decide) (by show (3 : Nat) ≠ 2; decide))⟩, ?_, ?_, ?_, by rw [e2]; exact H.keys⟩
  · have hm := H.map.keep ((block_other (w := w.setCell ⟨b, 1, none⟩ (.string s2)) (off := 2) hbm (.int .i64 z2)).trans (block_other (off := 1) hbm (.string s2)))
    rw [lookL_mid okP.inj hks] at hm
    rw [lookL_mid okP.inj hks]
    have e3 : (xs ++ (b, k, (s2, z2)) :: ys).length = (xs ++ (b, k, v) :: ys).length := by simp
    rw [e3]; exact hm
  · intro x hx
    rw [hoff _ _ (by decide) (by decide)]
    rcases List.mem_append.1 hx with h1 | h1
    · exact H.key x (by simp [h1])
    · rcases List.mem_cons.1 h1 with h2 | h2
      · subst h2; exact H.key (b, k, v) (by simp)
      · exact H.key x (by simp [h2])
  · intro x hx j u hu
    have hj : j < 2 := by
      rcases Nat.lt_or_ge j 2 with h | h
      · exact h
      · rw [List.getElem?_eq_none (show (IP.vv x.2.2).length ≤ j from h)] at hu; cases hu
    have other : x ∈ xs ++ ys → ((w.setCell ⟨b, 1, none⟩ (.string s2)).setCell ⟨b, 2, none⟩ (.int .i64 z2)).cell? ⟨x.1, 1 + j, none⟩ = some u := by
      intro h1
      have hne : x.1 ≠ b := fun e => hnot (by rw [← e]; exact List.mem_map_of_mem (f := fun x : Nat × Int × (ByteArray × Int) => x.1) h1)
      rw [cell_set_off _ (.inl hne), cell_set_off _ (.inl hne)]
      exact H.val x (by rcases List.mem_append.1 h1 with h | h <;> simp [h]) j u hu
    rcases List.mem_append.1 hx with h1 | h1
    · exact other (List.mem_append_left _ h1)
    · rcases List.mem_cons.1 h1 with h2 | h2
      · subst h2
        match j, hj, hu with
        | 0, _, hu =>
          injection hu with hu
          subst hu
          rw [cell_set_off _ (.inr (by decide))]
          exact cell_set_same hnb (by show (1 : Nat) < 5; decide) _
        | 1, _, hu =>
          injection hu with hu
          subst hu
          exact cell_set_same (hnb.setCell _ _ _) (by show (2 : Nat) < 5; decide) _
      · exact other (List.mem_append_right _ h2)
set_option maxRecDepth 100000 in
theorem putP_yes (c m h b : Nat) (most hits misses gone : Int) (k : Int) (v : (ByteArray × Int)) (xs ys : List (Nat × Int × (ByteArray × Int))) (w : World) (H : CRep IP w c m h most (xs ++ (b, k, v) :: ys) hits misses gone)
    (hkey : keyOf Try.prog 3 (IP.kv k) = some (IP.kl k)) (s2 : ByteArray) (z2 : Int) :
    Calls Try.prog 46 #[ptr c, .int .i64 k, pv (s2, z2)] w fun r w' => r = .returned (.tuple #[.int .i64 0, .bool false]) ∧ CRep IP w' c m h most ((b, k, (s2, z2)) :: (xs ++ ys)) hits misses gone ∧ Turn (CFp c m h (xs ++ (b, k, v) :: ys)) w w' := by
  obtain ⟨w1, hw1⟩ : ∃ w1, w1 = w.alloc (.cells #[.string s2, .int .i64 z2] 58) := ⟨_, rfl⟩
  have hb1 : Below w.heap.size w w1 := by rw [hw1]; exact (Below.refl _ _).alloc (Nat.le_refl _) _
  have hH := H.keep (w' := w1) fun b hb => hb1.block b (H.lt hb)
  have HH := Lib.hid hH
  have hn1 := (MapKept.heap_alloc w (.cells #[.string s2, .int .i64 z2] 58)).1
  rw [← hw1] at hn1
  have HB := Lib.hid hb1
  have HN := Lib.hid hn1
  have hs1 : w1.heap.size = w.heap.size + 1 := by rw [hw1]; simp
  have HS1 := Lib.hid hs1
  have hl : (Instr.lookup 92 (.map (some m)) (.int .i64 k) true).run Try.prog w1 = .ok (.tuple #[.pointer (some ⟨b, 0, none⟩), .bool true]) w1 := lookP hH hkey
  have c1 : w1.cell? ⟨c, 1, none⟩ = some (.map (some m)) := cell_of_block hH.blk (by show 1 < 6; decide)
  have HK := Lib.hid hkey
  have hnb : Node 95 5 w1 b := hH.ring.node b mem_blkP
  obtain ⟨s, z⟩ := v
  have b1 : w1.cell? ⟨b, 1, none⟩ = some (.string s) := hH.val (b, k, (s, z)) (by simp) 0 _ rfl
  have b2 : (w1.setCell ⟨b, 1, none⟩ (.string s2)).cell? ⟨b, 2, none⟩ = some (.int .i64 z) := (cell_set_off _ (.inr (by decide))).trans (hH.val (b, k, (s, z)) (by simp) 1 _ rfl)
  have f1 : w1.frozen? ⟨b, 1, none⟩ = false := hnb.free
  have f2 : (w1.setCell ⟨b, 1, none⟩ (.string s2)).frozen? ⟨b, 2, none⟩ = false := (hnb.setCell _ _ _).free
  have a0 : w1.cell? ⟨w.heap.size, 0, none⟩ = some (.string s2) := cell_of_block hn1 (by show 0 < 2; decide)
  have a1 : w1.cell? ⟨w.heap.size, 1, none⟩ = some (.int .i64 z2) := cell_of_block hn1 (by show 1 < 2; decide)
  have HU := Lib.hid (CRep.valuedP c m h b most hits misses gone k (s, z) s2 z2 xs ys w1 hH)
  have HT := Lib.hid (show Turn (CFp c m h (xs ++ (b, k, (s, z)) :: ys)) w ((w1.setCell ⟨b, 1, none⟩ (.string s2)).setCell ⟨b, 2, none⟩ (.int .i64 z2)) by rw [hw1]; exact (((Turn.refl _ w).alloc _).setCell (p := ⟨b, 1, none⟩) (.inl (.inr (.inr mem_blkP))) _).setCell (p := ⟨b, 2, none⟩) (.inl (.inr (.inr mem_blkP))) _)
  clear H hkey hnb hH hb1 hn1 hs1
  unfold pv
  go_enter Try.func46, Try.ntmps46
  go_upto_region 1 with (fail)
  rw [← hw1]
  clear hw1
  go_wp2_with fail
  refine (useP c m h b most hits misses gone k (s2, z2) xs ys _ HU.out).mono ?_
  rintro r w2 ⟨rfl, h1, h2, h3⟩
  have H1 := Lib.hid h1
  have H2 := Lib.hid h2
  clear h1 h2 h3 c1 hl b1 f1 b2 f2 a0 a1
  go_wp2
  go_ret2
  exact ⟨rfl, H1.out.alloc _, Turn.alloc (Turn.trans HT.out (H2.out.mono fun i hi => .inl (by unfold CFp at hi ⊢; simpa using hi))) _⟩
set_option maxRecDepth 100000 in
theorem putP_zero (c m h : Nat) (hits misses gone : Int) (k : Int) (L : List (Nat × Int × (ByteArray × Int))) (w : World) (H : CRep IP w c m h 0 L hits misses gone)
    (hkey : keyOf Try.prog 3 (IP.kv k) = some (IP.kl k)) (hk : k ∉ L.map (·.2.1)) (s2 : ByteArray) (z2 : Int) (hh : -1000000000 ≤ gone ∧ gone ≤ 1000000000) :
    Calls Try.prog 46 #[ptr c, .int .i64 k, pv (s2, z2)] w fun r w' => r = .returned (.tuple #[.int .i64 k, .bool true]) ∧ CRep IP w' c m h 0 L hits misses (gone + 1) ∧ Turn (CFp c m h L) w w' := by
  obtain ⟨w1, hw1⟩ : ∃ w1, w1 = w.alloc (.cells #[.string s2, .int .i64 z2] 58) := ⟨_, rfl⟩
  have hb1 : Below w.heap.size w w1 := by rw [hw1]; exact (Below.refl _ _).alloc (Nat.le_refl _) _
  have hH := H.keep (w' := w1) fun b hb => hb1.block b (H.lt hb)
  have HH := Lib.hid hH
  have hn1 := (MapKept.heap_alloc w (.cells #[.string s2, .int .i64 z2] 58)).1
  rw [← hw1] at hn1
  have HB := Lib.hid hb1
  have HN := Lib.hid hn1
  have hs1 : w1.heap.size = w.heap.size + 1 := by rw [hw1]; simp
  have HS1 := Lib.hid hs1
  have hl : (Instr.lookup 92 (.map (some m)) (.int .i64 k) true).run Try.prog w1 = .ok (.tuple #[.pointer none, .bool false]) w1 := missP hH hkey hk
  have c1 : w1.cell? ⟨c, 1, none⟩ = some (.map (some m)) := cell_of_block hH.blk (by show 1 < 6; decide)
  have HK := Lib.hid hkey
  have c0 : w1.cell? ⟨c, 0, none⟩ = some (.int .i64 0) := cell_of_block hH.blk (by show 0 < 6; decide)
  have c5 : w1.cell? ⟨c, 5, none⟩ = some (.int .i64 gone) := cell_of_block hH.blk (by show 5 < 6; decide)
  have f5 : w1.frozen? ⟨c, 5, none⟩ = false := frozen_of_block hH.blk
  have HT := Lib.hid (show Turn (CFp c m h L) w w1 by rw [hw1]; exact (Turn.refl _ w).alloc _)
  clear H hkey hk hH hb1 hn1 hs1
  unfold pv
  go_enter Try.func46, Try.ntmps46
  go_upto_region 1 with (fail)
  rw [← hw1]
  clear hw1
  go_wp2
  go_ret2
  exact ⟨rfl, HH.out.counted okP (block_setCell HH.out.blk _) (fun i _ hi => block_other (Ne.symm hi) _), HT.out.setCell (p := ⟨c, 5, none⟩) (.inl (.inl rfl)) _⟩

set_option maxHeartbeats 1000000 in
set_option maxRecDepth 100000 in
theorem putP_new (c m h : Nat) (most hits misses gone : Int) (k : Int) (L : List (Nat × Int × (ByteArray × Int))) (w : World) (H : CRep IP w c m h most L hits misses gone)
    (hkey : keyOf Try.prog 3 (IP.kv k) = some (IP.kl k)) (hk : k ∉ L.map (·.2.1)) (s2 : ByteArray) (z2 : Int) (hlt : (L.length : Int) < most) (hle : L.length ≤ 1000000) :
    Calls Try.prog 46 #[ptr c, .int .i64 k, pv (s2, z2)] w fun r w' => r = .returned (.tuple #[.int .i64 0, .bool false]) ∧ ∃ e, CRep IP w' c m h most ((e, k, (s2, z2)) :: L) hits misses gone ∧ w.heap.size ≤ e ∧ Turn (CFp c m h L) w w' := by
  obtain ⟨w1, hw1⟩ : ∃ w1, w1 = w.alloc (.cells #[.string s2, .int .i64 z2] 58) := ⟨_, rfl⟩
  have hb1 : Below w.heap.size w w1 := by rw [hw1]; exact (Below.refl _ _).alloc (Nat.le_refl _) _
  have hH := H.keep (w' := w1) fun b hb => hb1.block b (H.lt hb)
  have HH := Lib.hid hH
  have hn1 := (MapKept.heap_alloc w (.cells #[.string s2, .int .i64 z2] 58)).1
  rw [← hw1] at hn1
  have HB := Lib.hid hb1
  have HN := Lib.hid hn1
  have hs1 : w1.heap.size = w.heap.size + 1 := by rw [hw1]; simp
  have HS1 := Lib.hid hs1
  have hl : (Instr.lookup 92 (.map (some m)) (.int .i64 k) true).run Try.prog w1 = .ok (.tuple #[.pointer none, .bool false]) w1 := missP hH hkey hk
  have c1 : w1.cell? ⟨c, 1, none⟩ = some (.map (some m)) := cell_of_block hH.blk (by show 1 < 6; decide)
  have HK := Lib.hid hkey
  have HC := Lib.hid (show CRep IP w1.drew c m h most L hits misses gone from hH.keep fun _ _ => rfl)
  have HT0 := Lib.hid (show Turn (CFp c m h L) w w1.drew by rw [hw1]; exact ((Turn.refl _ w).alloc _).drew)
  have HS0 := Lib.hid (show w.heap.size ≤ w1.drew.heap.size by show w.heap.size ≤ w1.heap.size; omega)
  have HP0 := Lib.hid (show w1.drew.heap[w.heap.size]? = some (.cells #[.string s2, .int .i64 z2] 58 (0, 0)) from hn1)
  have HNK := Lib.hid hk
  have HLE := Lib.hid hle
  have HL : Hid (∀ ty, (Builtin.len_ #[92] ty #[.map (some m)]).run Try.prog w1.drew = .ok (.int .i64 L.length) w1.drew) := Lib.hid fun ty => MapF.len (P := Try.prog) (k := 3) (e := 93) (hH.map.keep (show w1.drew.heap[m]? = w1.heap[m]? from rfl)) Try.underlying92 ty
  have c0 : w1.cell? ⟨c, 0, none⟩ = some (.int .i64 most) := cell_of_block hH.blk (by show 0 < 6; decide)
  have t0 : (most == 0) = false := by rw [beq_eq_false_iff_ne]; omega
  have t1 : ((L.length : Int) == most) = false := by rw [beq_eq_false_iff_ne]; omega
  clear H hkey hk hle hlt hH hb1 hn1 hs1
  unfold pv
  go_enter Try.func46, Try.ntmps46
  go_upto_region 1 with (fail)
  rw [← hw1]
  clear hw1
  go_wp2
  refine wp_region_ord (fun w' => w'.cell? ⟨c, 1, none⟩ = some (.map (some m)) ∧ w'.cell? ⟨c, 0, none⟩ = some (.int .i64 most) ∧ ∀ ty, (Builtin.len_ #[92] ty #[.map (some m)]).run Try.prog w' = .ok (.int .i64 L.length) w') [(0, false), (1, false), (2, false), (3, false), (4, false), (5, false), (6, false), (7, false), (8, false), (9, false), (10, true)] (by kernel_rfl) (by kernel_rfl) (fun _ _ d _ _ h => by cases d <;> exact h) ⟨c1, c0, fun ty => HL.out ty⟩ ?_
  iterate 10
    refine heldL ?_ ?_ (by rfl) (by rfl) (fun w' s1 => ?_) ?_ ?_
    rotate_left 2
    focus (obtain ⟨s1, s2, s3⟩ := s1; go_simp; exact rfl)
    focus (go_simp; exact rfl)
  refine actL (by kernel_rfl) (by rfl) (by rfl) (fun K hK => ?_)
  go_wp2_with fail
  refine nilL ?_
  clear c0 hl t0 c1
  obtain ⟨w0, hw0⟩ : ∃ w0, w0 = w1.drew := ⟨_, rfl⟩
  rw [← hw0] at HC HT0 HS0 HP0 ⊢
  clear hw0
  have HCA := Lib.hid (HC.out.alloc (.cells #[.int .i64 k, .string s2, .int .i64 z2, .pointer none, .pointer none] 95))
  have HE := Lib.hid (show Node 95 5 (w0.alloc (.cells #[.int .i64 k, .string s2, .int .i64 z2, .pointer none, .pointer none] 95)) w0.heap.size from ⟨_, (MapKept.heap_alloc w0 _).1, rfl⟩)
  have HX := Lib.hid (show w0.heap.size ∉ h :: (L).map (·.1) from fun hh => by have := (HC.out.ring.node _ hh).lt; omega)
  have c2 : (w0.alloc (.cells #[.int .i64 k, .string s2, .int .i64 z2, .pointer none, .pointer none] 95)).cell? ⟨c, 2, none⟩ = some (.pointer (some ⟨h, 0, none⟩)) := cell_of_block HCA.out.blk (by show 2 < 6; decide)
  have a0 : w0.cell? ⟨w.heap.size, 0, none⟩ = some (.string s2) := cell_of_block HP0.out (by show 0 < 2; decide)
  have a1 : w0.cell? ⟨w.heap.size, 1, none⟩ = some (.int .i64 z2) := cell_of_block HP0.out (by show 1 < 2; decide)
  go_wp2_with fail
  refine (linkRP h w0.heap.size ((L).map (·.1)) _ (show Ring 95 5 3 4 _ h (List.map (fun x : Nat × Int × (ByteArray × Int) => x.1) (L)) from HCA.out.ring) HE.out HX.out).mono ?_
  rintro r w2 ⟨rfl, hr2, ht2⟩
  have HR2 := Lib.hid hr2
  have HT2 := Lib.hid ht2
  have hF : ∀ i, i ∈ w0.heap.size :: h :: (L).map (·.1) → Node 95 5 (w0.alloc (.cells #[.int .i64 k, .string s2, .int .i64 z2, .pointer none, .pointer none] 95)) i := by
    intro i hi
    rcases List.mem_cons.1 hi with h1 | h1
    · rw [h1]; exact HE.out
    · exact HCA.out.ring.node i h1
  have hk2 : w2.heap[c]? = (w0.alloc (.cells #[.int .i64 k, .string s2, .int .i64 z2, .pointer none, .pointer none] 95)).heap[c]? := ht2.turn.block c (block_lt HCA.out.blk) (fun hf => HCA.out.c_ne okP (hF c hf) rfl)
  have hk3 : w2.heap[m]? = (w0.alloc (.cells #[.int .i64 k, .string s2, .int .i64 z2, .pointer none, .pointer none] 95)).heap[m]? := ht2.turn.block m HCA.out.map.lt (fun hf => HCA.out.m_ne (hF m hf) rfl)
  have c1' : w2.cell? ⟨c, 1, none⟩ = some (.map (some m)) := cell_of_block (hk2.trans HCA.out.blk) (by show 1 < 6; decide)
  have HM := Lib.hid (show MapF Try.prog 3 w2 m (lookL IP.kl (L)) (L).length from HCA.out.map.keep hk3)
  clear hr2 ht2 hF hk2 hk3 c2 a0 a1
  go_wp2_with (at_mapUpdate; refine wpList_mapF_store (by rfl) (.tmp 92) (.tmp 93) (.tmp 94) 92 (by rfl) 3 93 kdP Try.underlying92 m _ _ (by rfl) HM.out (by have := HLE.out; unfold maxLen; simp at this ⊢; omega) (.int .i64 k) (ptr w0.heap.size) (IP.kl k) (by rfl) (by rfl) HK.out ?_)
  intro w3 hm3 htu
  rw [lookL_none okP.inj HNK.out] at hm3
  have HF := Lib.hid (HC.out.added okP HNK.out (cs := #[.int .i64 k, .string s2, .int .i64 z2, .pointer none, .pointer none]) (v := (s2, z2)) rfl rfl (fun j u hu => by
    match j, hu with
    | 0, hu => exact hu
    | 1, hu => exact hu) HR2.out HT2.out hm3 htu)
  clear hm3 htu c1'
  go_wp2
  go_ret2
  obtain ⟨f1, f2⟩ := HF.out
  exact ⟨rfl, w0.heap.size, f1, HS0.out, HT0.out.trans f2⟩

set_option maxHeartbeats 2000000 in
set_option maxRecDepth 100000 in
theorem putP_full (c m h b0 : Nat) (most hits misses gone : Int) (k k0 : Int) (v0 : ByteArray × Int) (xs : List (Nat × Int × (ByteArray × Int))) (w : World) (H : CRep IP w c m h most (xs ++ [(b0, k0, v0)]) hits misses gone)
    (hkey : keyOf Try.prog 3 (IP.kv k) = some (IP.kl k)) (hkey0 : keyOf Try.prog 3 (IP.kv k0) = some (IP.kl k0)) (hk : k ∉ (xs ++ [(b0, k0, v0)]).map (·.2.1)) (s2 : ByteArray) (z2 : Int) (hlt : ((xs ++ [(b0, k0, v0)]).length : Int) = most) (hle : xs.length ≤ 1000000) (hh : -1000000000 ≤ gone ∧ gone ≤ 1000000000) :
    Calls Try.prog 46 #[ptr c, .int .i64 k, pv (s2, z2)] w fun r w' => r = .returned (.tuple #[.int .i64 k0, .bool true]) ∧ ∃ e, CRep IP w' c m h most ((e, k, (s2, z2)) :: xs) hits misses (gone + 1) ∧ w.heap.size ≤ e ∧ Turn (CFp c m h (xs ++ [(b0, k0, v0)])) w w' := by
  obtain ⟨L, hL⟩ : ∃ L, L = xs ++ [(b0, k0, v0)] := ⟨_, rfl⟩
  have HLL := Lib.hid hL
  rw [← hL] at H hk hlt
  clear hL
  obtain ⟨w1, hw1⟩ : ∃ w1, w1 = w.alloc (.cells #[.string s2, .int .i64 z2] 58) := ⟨_, rfl⟩
  have hb1 : Below w.heap.size w w1 := by rw [hw1]; exact (Below.refl _ _).alloc (Nat.le_refl _) _
  have hH := H.keep (w' := w1) fun b hb => hb1.block b (H.lt hb)
  have HH := Lib.hid hH
  have hn1 := (MapKept.heap_alloc w (.cells #[.string s2, .int .i64 z2] 58)).1
  rw [← hw1] at hn1
  have HB := Lib.hid hb1
  have HN := Lib.hid hn1
  have hs1 : w1.heap.size = w.heap.size + 1 := by rw [hw1]; simp
  have HS1 := Lib.hid hs1
  have hl : (Instr.lookup 92 (.map (some m)) (.int .i64 k) true).run Try.prog w1 = .ok (.tuple #[.pointer none, .bool false]) w1 := missP hH hkey hk
  have c1 : w1.cell? ⟨c, 1, none⟩ = some (.map (some m)) := cell_of_block hH.blk (by show 1 < 6; decide)
  have HK := Lib.hid hkey
  have HN2 := Lib.hid (show k ∉ xs.map (·.2.1) from fun hh => hk (by rw [HLL.out, List.map_append]; exact List.mem_append_left _ hh))
  have HLE := Lib.hid hle
  have HK0 := Lib.hid hkey0
  have HL : Hid (∀ ty, (Builtin.len_ #[92] ty #[.map (some m)]).run Try.prog w1.drew = .ok (.int .i64 L.length) w1.drew) := Lib.hid fun ty => MapF.len (P := Try.prog) (k := 3) (e := 93) (hH.map.keep (show w1.drew.heap[m]? = w1.heap[m]? from rfl)) Try.underlying92 ty
  have hpos : 0 < L.length := by rw [HLL.out]; simp
  have c0 : w1.cell? ⟨c, 0, none⟩ = some (.int .i64 most) := cell_of_block hH.blk (by show 0 < 6; decide)
  have t0 : (most == 0) = false := by rw [beq_eq_false_iff_ne]; omega
  have t1 : ((L.length : Int) == most) = true := by rw [beq_iff_eq]; omega
  have c2 : w1.cell? ⟨c, 2, none⟩ = some (.pointer (some ⟨h, 0, none⟩)) := cell_of_block hH.blk (by show 2 < 6; decide)
  have h2 : w1.cell? ⟨h, 3, none⟩ = some (.pointer (some ⟨b0, 0, none⟩)) := by
    have := hH.ring.chain.last.2
    rw [HLL.out, List.map_append] at this
    rw [show lastOf h (xs.map (fun x : Nat × Int × (ByteArray × Int) => x.1) ++ [(b0, k0, v0)].map (·.1)) = b0 from lastOf_snoc _ _ _] at this
    exact this
  have k0c : w1.cell? ⟨b0, 0, none⟩ = some (.int .i64 k0) := hH.key (b0, k0, v0) (by rw [HLL.out]; simp)
  have HT0 := Lib.hid (show Turn (CFp c m h L) w w1.drew by rw [hw1]; exact ((Turn.refl _ w).alloc _).drew)
  have HNF := Lib.hid (show ¬ CFp c m h L w.heap.size from fun hf => by have := H.lt hf; omega)
  clear H hkey hk hle hlt hpos hkey0 hH hb1 hn1 hs1
  unfold pv
  go_enter Try.func46, Try.ntmps46
  go_upto_region 1 with (fail)
  rw [← hw1]
  clear hw1
  go_wp2
  refine wp_region_ord (fun w' => w'.cell? ⟨c, 1, none⟩ = some (.map (some m)) ∧ w'.cell? ⟨c, 0, none⟩ = some (.int .i64 most) ∧ ∀ ty, (Builtin.len_ #[92] ty #[.map (some m)]).run Try.prog w' = .ok (.int .i64 L.length) w') [(0, false), (1, false), (2, false), (3, false), (4, false), (5, false), (6, false), (7, false), (8, false), (9, false), (10, true)] (by kernel_rfl) (by kernel_rfl) (fun _ _ d _ _ h => by cases d <;> exact h) ⟨c1, c0, fun ty => HL.out ty⟩ ?_
  iterate 10
    refine heldL ?_ ?_ (by rfl) (by rfl) (fun w' s1 => ?_) ?_ ?_
    rotate_left 2
    focus (obtain ⟨s1, s2, s3⟩ := s1; go_simp; exact rfl)
    focus (go_simp; exact rfl)
  refine actL (by kernel_rfl) (by rfl) (by rfl) (fun K hK => ?_)
  go_wp2_with fail
  refine nilL ?_
  clear c0 hl t0 c1
  have HH2 := Lib.hid (show CRep IP w1.drew c m h most (xs ++ (b0, k0, v0) :: []) hits misses gone from by have := HH.out; rw [HLL.out] at this; exact this.keep fun _ _ => rfl)
  go_wp2_with fail
  refine (forgetP c m h b0 most hits misses gone k0 v0 xs [] _ HH2.out HK0.out).mono ?_
  rintro r w2 ⟨rfl, h1, hT1, hS1⟩
  rw [List.append_nil] at h1
  have c5 : w2.cell? ⟨c, 5, none⟩ = some (.int .i64 gone) := cell_of_block h1.blk (by show 5 < 6; decide)
  have f5 : w2.frozen? ⟨c, 5, none⟩ = false := frozen_of_block h1.blk
  have HC := Lib.hid (show CRep IP (w2.setCell ⟨c, 5, none⟩ (.int .i64 (gone + 1))) c m h most xs hits misses (gone + 1) from h1.counted okP (block_setCell h1.blk _) (fun i _ hi => block_other (Ne.symm hi) _))
  have hT2 : Turn (CFp c m h L) w w2 := HT0.out.trans (hT1.mono fun i hi => .inl (by rw [HLL.out]; exact hi))
  have HP1 : w2.heap[w.heap.size]? = some (.cells #[.string s2, .int .i64 z2] 58 (0, 0)) := (hT1.block w.heap.size (by show w.heap.size < w1.heap.size; have := HS1.out; omega) (fun hf => HNF.out (by rw [HLL.out]; exact hf))).trans HN.out
  have hcne : c ≠ w.heap.size := fun e => HNF.out (.inl e.symm)
  have HP0 := Lib.hid ((block_other (w := w2) (off := 5) hcne (.int .i64 (gone + 1))).trans HP1)
  have HT1 := Lib.hid (hT2.setCell (p := ⟨c, 5, none⟩) (.inl (.inl rfl)) (.int .i64 (gone + 1)))
  have HS2 := Lib.hid (show w.heap.size ≤ (w2.setCell ⟨c, 5, none⟩ (.int .i64 (gone + 1))).heap.size by have := hT2.size; simp [World.setCell]; exact this)
  clear h1 hT1 hS1 c2 h2 k0c hT2 HP1 hcne HT0
  go_upto_region 16 with (fail)
  obtain ⟨w0, hw0⟩ : ∃ w0, w0 = w2.setCell ⟨c, 5, none⟩ (.int .i64 (gone + 1)) := ⟨_, rfl⟩
  rw [← hw0] at HC HP0 HT1 HS2 ⊢
  clear hw0 c5 f5
  have HCA := Lib.hid (HC.out.alloc (.cells #[.int .i64 k, .string s2, .int .i64 z2, .pointer none, .pointer none] 95))
  have HE := Lib.hid (show Node 95 5 (w0.alloc (.cells #[.int .i64 k, .string s2, .int .i64 z2, .pointer none, .pointer none] 95)) w0.heap.size from ⟨_, (MapKept.heap_alloc w0 _).1, rfl⟩)
  have HX := Lib.hid (show w0.heap.size ∉ h :: (xs).map (·.1) from fun hh => by have := (HC.out.ring.node _ hh).lt; omega)
  have c2 : (w0.alloc (.cells #[.int .i64 k, .string s2, .int .i64 z2, .pointer none, .pointer none] 95)).cell? ⟨c, 2, none⟩ = some (.pointer (some ⟨h, 0, none⟩)) := cell_of_block HCA.out.blk (by show 2 < 6; decide)
  have a0 : w0.cell? ⟨w.heap.size, 0, none⟩ = some (.string s2) := cell_of_block HP0.out (by show 0 < 2; decide)
  have a1 : w0.cell? ⟨w.heap.size, 1, none⟩ = some (.int .i64 z2) := cell_of_block HP0.out (by show 1 < 2; decide)
  go_wp2_with fail
  refine (linkRP h w0.heap.size ((xs).map (·.1)) _ (show Ring 95 5 3 4 _ h (List.map (fun x : Nat × Int × (ByteArray × Int) => x.1) (xs)) from HCA.out.ring) HE.out HX.out).mono ?_
  rintro r w4 ⟨rfl, hr2, ht2⟩
  have HR2 := Lib.hid hr2
  have HT2 := Lib.hid ht2
  have hF : ∀ i, i ∈ w0.heap.size :: h :: (xs).map (·.1) → Node 95 5 (w0.alloc (.cells #[.int .i64 k, .string s2, .int .i64 z2, .pointer none, .pointer none] 95)) i := by
    intro i hi
    rcases List.mem_cons.1 hi with h1 | h1
    · rw [h1]; exact HE.out
    · exact HCA.out.ring.node i h1
  have hk2 : w4.heap[c]? = (w0.alloc (.cells #[.int .i64 k, .string s2, .int .i64 z2, .pointer none, .pointer none] 95)).heap[c]? := ht2.turn.block c (block_lt HCA.out.blk) (fun hf => HCA.out.c_ne okP (hF c hf) rfl)
  have hk3 : w4.heap[m]? = (w0.alloc (.cells #[.int .i64 k, .string s2, .int .i64 z2, .pointer none, .pointer none] 95)).heap[m]? := ht2.turn.block m HCA.out.map.lt (fun hf => HCA.out.m_ne (hF m hf) rfl)
  have c1' : w4.cell? ⟨c, 1, none⟩ = some (.map (some m)) := cell_of_block (hk2.trans HCA.out.blk) (by show 1 < 6; decide)
  have HM := Lib.hid (show MapF Try.prog 3 w4 m (lookL IP.kl (xs)) (xs).length from HCA.out.map.keep hk3)
  clear hr2 ht2 hF hk2 hk3 c2 a0 a1
  go_wp2_with (at_mapUpdate; refine wpList_mapF_store (by rfl) (.tmp 92) (.tmp 93) (.tmp 94) 92 (by rfl) 3 93 kdP Try.underlying92 m _ _ (by rfl) HM.out (by have := HLE.out; unfold maxLen; simp at this ⊢; omega) (.int .i64 k) (ptr w0.heap.size) (IP.kl k) (by rfl) (by rfl) HK.out ?_)
  intro w3 hm3 htu
  rw [lookL_none okP.inj HN2.out] at hm3
  have HF := Lib.hid (HC.out.added okP HN2.out (cs := #[.int .i64 k, .string s2, .int .i64 z2, .pointer none, .pointer none]) (v := (s2, z2)) rfl rfl (fun j u hu => by
    match j, hu with
    | 0, hu => exact hu
    | 1, hu => exact hu) HR2.out HT2.out hm3 htu)
  clear hm3 htu c1'
  go_wp2
  go_ret2
  refine ⟨rfl, w0.heap.size, HF.out.1, HS2.out, ?_⟩
  rw [← HLL.out]
  refine HT1.out.trans (HF.out.2.mono fun i hi => .inl ?_)
  rcases hi with h1 | h1 | h1
  · exact .inl h1
  · exact .inr (.inl h1)
  · refine .inr (.inr ?_)
    rw [HLL.out, List.map_append]
    rcases List.mem_cons.1 h1 with h2 | h2
    · rw [h2]; simp
    · exact List.mem_cons_of_mem _ (List.mem_append_left _ h2)
end Go.Proofs.Ytfkdmbiejledoaa
