/-
  Put.
-/
import Derived.Test.YtfkdmbiejledoaaC3
import Derived.Deep.Cut
import Derived.Deep.DeepCutAuto
set_option linter.unusedVariables false
set_option linter.unusedSimpArgs false
namespace Go.Proofs.Ytfkdmbiejledoaa
open Go.RowKit


theorem mem_blk {h b : Nat} {k v : ByteArray} {xs ys : List (Nat × ByteArray × ByteArray)} : b ∈ h :: (xs ++ (b, k, v) :: ys).map (·.1) :=
  List.mem_cons_of_mem _ (List.mem_map_of_mem (f := fun x : Nat × ByteArray × ByteArray => x.1) (a := (b, k, v)) (by simp))
/-- another value under the same key -/
theorem CRep.valued (c m h b : Nat) (most hits misses gone : Int) (k v v2 : ByteArray) (xs ys : List (Nat × ByteArray × ByteArray)) (w : World) (H : CRep IS w c m h most (xs ++ (b, k, v) :: ys) hits misses gone) :
    CRep IS (w.setCell ⟨b, 1, none⟩ (.string v2)) c m h most (xs ++ (b, k, v2) :: ys) hits misses gone := by
  have hb : b ∈ h :: (xs ++ (b, k, v) :: ys).map (·.1) := mem_blk
  have hnb := H.ring.node b hb
  have hbc := H.c_ne okS hnb
  have hbm := H.m_ne hnb
  have e1 : (xs ++ (b, k, v2) :: ys).map (fun x : Nat × ByteArray × ByteArray => x.1) = (xs ++ (b, k, v) :: ys).map (·.1) := by simp
  have e2 : (xs ++ (b, k, v2) :: ys).map (fun x : Nat × ByteArray × ByteArray => x.2.1) = (xs ++ (b, k, v) :: ys).map (·.2.1) := by simp
  have hks := (keys_split H.keys).2.1
  have hoff : ∀ i o, o ≠ 1 → (w.setCell ⟨b, 1, none⟩ (.string v2)).cell? ⟨i, o, none⟩ = w.cell? ⟨i, o, none⟩ := fun i o ho => cell_set_off _ (.inr ho)
  have hnd := (List.nodup_cons.1 H.ring.nodup).2
  rw [List.map_append, List.map_cons] at hnd
  have hnot : b ∉ (xs ++ ys).map (·.1) := by rw [List.map_append]; exact mid_out hnd
  refine ⟨(block_other hbc _).trans H.blk, ⟨by rw [e1]; exact H.ring.nodup, fun i hi => (H.ring.node i (by rwa [e1] at hi)).setCell _ _ _, by rw [e1]; exact H.ring.chain.congr (fun x _ => hoff x _ (by show (3 : Nat) ≠ 1; decide)) (fun x _ => hoff x _ (by show (2 : Nat) ≠ 1; decide))⟩, ?_, ?_, ?_, by rw [e2]; exact H.keys⟩
  · have hm := H.map.keep (block_other (off := 1) hbm (.string v2))
    rw [lookL_mid okS.inj hks] at hm
    rw [lookL_mid okS.inj hks]
    have e3 : (xs ++ (b, k, v2) :: ys).length = (xs ++ (b, k, v) :: ys).length := by simp
    rw [e3]; exact hm
  · intro x hx
    rw [hoff _ _ (by decide)]
    rcases List.mem_append.1 hx with h1 | h1
    · exact H.key x (by simp [h1])
    · rcases List.mem_cons.1 h1 with h2 | h2
      · subst h2; exact H.key (b, k, v) (by simp)
      · exact H.key x (by simp [h2])
  · intro x hx j u hu
    have hj : j = 0 := by
      have : j < [Value.string x.2.2].length := by
        rcases Nat.lt_or_ge j [Value.string x.2.2].length with h | h
        · exact h
        · rw [show IS.vv x.2.2 = [Value.string x.2.2] from rfl, List.getElem?_eq_none h] at hu; cases hu
      simpa using this
    subst hj
    have other : x ∈ xs ++ ys → (w.setCell ⟨b, 1, none⟩ (.string v2)).cell? ⟨x.1, 1 + 0, none⟩ = some u := by
      intro h1
      rw [cell_set_off _ (.inl (fun e => hnot (by rw [← e]; exact List.mem_map_of_mem (f := fun x : Nat × ByteArray × ByteArray => x.1) h1)))]
      exact H.val x (by rcases List.mem_append.1 h1 with h | h <;> simp [h]) 0 u hu
    rcases List.mem_append.1 hx with h1 | h1
    · exact other (List.mem_append_left _ h1)
    · rcases List.mem_cons.1 h1 with h2 | h2
      · subst h2
        injection hu with hu
        subst hu
        exact cell_set_same hnb (by show (1 : Nat) < 4; decide) _
      · exact other (List.mem_append_right _ h2)
theorem putS_yes (c m h b : Nat) (most hits misses gone : Int) (k : ByteArray) (v : ByteArray) (xs ys : List (Nat × ByteArray × ByteArray)) (w : World) (H : CRep IS w c m h most (xs ++ (b, k, v) :: ys) hits misses gone)
    (hkey : keyOf Try.prog 9 (IS.kv k) = some (IS.kl k)) (v2 : ByteArray) :
    Calls Try.prog 16 #[ptr c, .string k, .string v2] w fun r w' => r = .returned (.tuple #[.string ⟨#[]⟩, .bool false]) ∧ CRep IS w' c m h most ((b, k, v2) :: (xs ++ ys)) hits misses gone ∧ Turn (CFp c m h (xs ++ (b, k, v) :: ys)) w w' := by
  have HH := Lib.hid H
  have hl : (Instr.lookup 62 (.map (some m)) (Value.string k) true).run Try.prog w = .ok (.tuple #[.pointer (some ⟨b, 0, none⟩), .bool true]) w := lookS H hkey
  have c1 : w.cell? ⟨c, 1, none⟩ = some (.map (some m)) := cell_of_block H.blk (by show 1 < 6; decide)
  have HK := Lib.hid hkey
  have hnb : Node 65 4 w b := H.ring.node b mem_blk
  have b1 : w.cell? ⟨b, 1, none⟩ = some (.string v) := H.val (b, k, v) (by simp) 0 _ rfl
  have f1 : w.frozen? ⟨b, 1, none⟩ = false := hnb.free
  have HU := Lib.hid (CRep.valued c m h b most hits misses gone k v v2 xs ys w H)
  clear H hkey hnb
  go_enter Try.func16, Try.ntmps16
  go_wp2_with fail
  refine (useS c m h b most hits misses gone k v2 xs ys _ HU.out).mono ?_
  rintro r w1 ⟨rfl, h1, h2, h3⟩
  have H1 := Lib.hid h1
  have H2 := Lib.hid h2
  have H3 := Lib.hid h3
  clear h1 h2 h3 c1 hl b1 f1
  go_wp2
  go_ret2
  exact ⟨rfl, H1.out.alloc _, Turn.alloc (Turn.trans ((Turn.refl _ w).setCell (p := ⟨b, 1, none⟩) (.inl (.inr (.inr mem_blk))) _) (H2.out.mono fun i hi => .inl (by unfold CFp at hi ⊢; simpa using hi))) _⟩
theorem putS_zero (c m h : Nat) (hits misses gone : Int) (k : ByteArray) (L : List (Nat × ByteArray × ByteArray)) (w : World) (H : CRep IS w c m h 0 L hits misses gone)
    (hkey : keyOf Try.prog 9 (IS.kv k) = some (IS.kl k)) (hk : k ∉ L.map (·.2.1)) (v2 : ByteArray) (hh : -1000000000 ≤ gone ∧ gone ≤ 1000000000) :
    Calls Try.prog 16 #[ptr c, .string k, .string v2] w fun r w' => r = .returned (.tuple #[.string k, .bool true]) ∧ CRep IS w' c m h 0 L hits misses (gone + 1) ∧ Turn (CFp c m h L) w w' := by
  have HH := Lib.hid H
  have hl : (Instr.lookup 62 (.map (some m)) (Value.string k) true).run Try.prog w = .ok (.tuple #[.pointer none, .bool false]) w := missS H hkey hk
  have c1 : w.cell? ⟨c, 1, none⟩ = some (.map (some m)) := cell_of_block H.blk (by show 1 < 6; decide)
  have HK := Lib.hid hkey
  have c0 : w.cell? ⟨c, 0, none⟩ = some (.int .i64 0) := cell_of_block H.blk (by show 0 < 6; decide)
  have c5 : w.cell? ⟨c, 5, none⟩ = some (.int .i64 gone) := cell_of_block H.blk (by show 5 < 6; decide)
  have f5 : w.frozen? ⟨c, 5, none⟩ = false := frozen_of_block H.blk
  clear H hkey hk
  go_enter Try.func16, Try.ntmps16
  go_wp2
  go_ret2
  exact ⟨rfl, HH.out.counted okS (block_setCell HH.out.blk _) (fun i _ hi => block_other (Ne.symm hi) _), (Turn.refl _ w).setCell (p := ⟨c, 5, none⟩) (.inl (.inl rfl)) _⟩

set_option maxHeartbeats 1000000 in
set_option maxRecDepth 100000 in
theorem putS_new (c m h : Nat) (most hits misses gone : Int) (k : ByteArray) (L : List (Nat × ByteArray × ByteArray)) (w : World) (H : CRep IS w c m h most L hits misses gone)
    (hkey : keyOf Try.prog 9 (IS.kv k) = some (IS.kl k)) (hk : k ∉ L.map (·.2.1)) (v2 : ByteArray) (hlt : (L.length : Int) < most) (hle : L.length ≤ 1000000) :
    Calls Try.prog 16 #[ptr c, .string k, .string v2] w fun r w' => r = .returned (.tuple #[.string ⟨#[]⟩, .bool false]) ∧ CRep IS w' c m h most ((w.heap.size, k, v2) :: L) hits misses gone ∧ Turn (CFp c m h L) w w' := by
  have HH := Lib.hid H
  have hl : (Instr.lookup 62 (.map (some m)) (Value.string k) true).run Try.prog w = .ok (.tuple #[.pointer none, .bool false]) w := missS H hkey hk
  have c1 : w.cell? ⟨c, 1, none⟩ = some (.map (some m)) := cell_of_block H.blk (by show 1 < 6; decide)
  have HK := Lib.hid hkey
  have HC := Lib.hid (show CRep IS w.drew c m h most L hits misses gone from H.keep fun _ _ => rfl)
  have HN := Lib.hid hk
  have HLE := Lib.hid hle
  have HL : Hid (∀ ty, (Builtin.len_ #[62] ty #[.map (some m)]).run Try.prog w.drew = .ok (.int .i64 L.length) w.drew) := Lib.hid fun ty => MapF.len (P := Try.prog) (k := 9) (e := 63) (H.map.keep (show w.drew.heap[m]? = w.heap[m]? from rfl)) Try.underlying62 ty
  have c0 : w.cell? ⟨c, 0, none⟩ = some (.int .i64 most) := cell_of_block H.blk (by show 0 < 6; decide)
  have t0 : (most == 0) = false := by rw [beq_eq_false_iff_ne]; omega
  have t1 : ((L.length : Int) == most) = false := by rw [beq_eq_false_iff_ne]; omega
  clear H hkey hk hle hlt
  go_enter Try.func16, Try.ntmps16
  go_wp2
  refine wp_region_ord (fun w' => w'.cell? ⟨c, 1, none⟩ = some (.map (some m)) ∧ w'.cell? ⟨c, 0, none⟩ = some (.int .i64 most) ∧ ∀ ty, (Builtin.len_ #[62] ty #[.map (some m)]).run Try.prog w' = .ok (.int .i64 L.length) w') [(0, false), (1, false), (2, false), (3, false), (4, false), (5, false), (6, false), (7, false), (8, false), (9, false), (10, true)] (by kernel_rfl) (by kernel_rfl) (fun _ _ d _ _ h => by cases d <;> exact h) ⟨c1, c0, fun ty => HL.out ty⟩ ?_
  iterate 10
    refine heldL ?_ ?_ (by rfl) (by rfl) (fun w' s1 => ?_) ?_ ?_
    rotate_left 2
    focus (obtain ⟨s1, s2, s3⟩ := s1; go_simp; exact rfl)
    focus (go_simp; exact rfl)
  refine actL (by kernel_rfl) (by rfl) (by rfl) (fun K hK => ?_)
  go_wp2_with fail
  refine nilL ?_
  clear c0 hl t0 c1
  obtain ⟨w0, hw0⟩ : ∃ w0, w0 = w.drew := ⟨_, rfl⟩
  have HW0 := Lib.hid hw0
  rw [← hw0] at HC ⊢
  clear hw0
  have HCA := Lib.hid (HC.out.alloc (.cells #[.string k, .string v2, .pointer none, .pointer none] 65))
  have HE := Lib.hid (show Node 65 4 (w0.alloc (.cells #[.string k, .string v2, .pointer none, .pointer none] 65)) w0.heap.size from ⟨_, (MapKept.heap_alloc w0 _).1, rfl⟩)
  have HX := Lib.hid (show w0.heap.size ∉ h :: (L).map (·.1) from fun hh => by have := (HC.out.ring.node _ hh).lt; omega)
  have c2 : (w0.alloc (.cells #[.string k, .string v2, .pointer none, .pointer none] 65)).cell? ⟨c, 2, none⟩ = some (.pointer (some ⟨h, 0, none⟩)) := cell_of_block HCA.out.blk (by show 2 < 6; decide)
  go_wp2_with fail
  refine (linkRS h w0.heap.size ((L).map (·.1)) _ (show Ring 65 4 2 3 _ h (List.map (fun x : Nat × ByteArray × ByteArray => x.1) (L)) from HCA.out.ring) HE.out HX.out).mono ?_
  rintro r w2 ⟨rfl, hr2, ht2⟩
  have HR2 := Lib.hid hr2
  have HT2 := Lib.hid ht2
  have hF : ∀ i, i ∈ w0.heap.size :: h :: (L).map (·.1) → Node 65 4 (w0.alloc (.cells #[.string k, .string v2, .pointer none, .pointer none] 65)) i := by
    intro i hi
    rcases List.mem_cons.1 hi with h1 | h1
    · rw [h1]; exact HE.out
    · exact HCA.out.ring.node i h1
  have hk2 : w2.heap[c]? = (w0.alloc (.cells #[.string k, .string v2, .pointer none, .pointer none] 65)).heap[c]? := ht2.turn.block c (block_lt HCA.out.blk) (fun hf => HCA.out.c_ne okS (hF c hf) rfl)
  have hk3 : w2.heap[m]? = (w0.alloc (.cells #[.string k, .string v2, .pointer none, .pointer none] 65)).heap[m]? := ht2.turn.block m HCA.out.map.lt (fun hf => HCA.out.m_ne (hF m hf) rfl)
  have c1' : w2.cell? ⟨c, 1, none⟩ = some (.map (some m)) := cell_of_block (hk2.trans HCA.out.blk) (by show 1 < 6; decide)
  have HM := Lib.hid (show MapF Try.prog 9 w2 m (lookL IS.kl (L)) (L).length from HCA.out.map.keep hk3)
  clear hr2 ht2 hF hk2 hk3 c2
  go_wp2_with (at_mapUpdate; refine wpList_mapF_store (by rfl) (.tmp 92) (.tmp 93) (.tmp 94) 62 (by rfl) 9 63 kdS Try.underlying62 m _ _ (by rfl) HM.out (by have := HLE.out; unfold maxLen; simp at this ⊢; omega) (.string k) (ptr w0.heap.size) (IS.kl k) (by rfl) (by rfl) HK.out ?_)
  intro w3 hm3 htu
  rw [lookL_none okS.inj HN.out] at hm3
  have HF := Lib.hid (HC.out.added okS HN.out (cs := #[.string k, .string v2, .pointer none, .pointer none]) (v := v2) rfl rfl (fun j u hu => by
    match j, hu with
    | 0, hu => exact hu) HR2.out HT2.out hm3 htu)
  clear hm3 htu c1'
  go_wp2
  go_ret2
  obtain ⟨f1, f2⟩ := HF.out
  rw [HW0.out] at f1 f2
  exact ⟨rfl, f1, f2.os, f2.tape, f2.output, f2.size, f2.block⟩

set_option maxHeartbeats 2000000 in
set_option maxRecDepth 100000 in
theorem putS_full (c m h b0 : Nat) (most hits misses gone : Int) (k k0 v0 : ByteArray) (xs : List (Nat × ByteArray × ByteArray)) (w : World) (H : CRep IS w c m h most (xs ++ [(b0, k0, v0)]) hits misses gone)
    (hkey : keyOf Try.prog 9 (IS.kv k) = some (IS.kl k)) (hkey0 : keyOf Try.prog 9 (IS.kv k0) = some (IS.kl k0)) (hk : k ∉ (xs ++ [(b0, k0, v0)]).map (·.2.1)) (v2 : ByteArray) (hlt : ((xs ++ [(b0, k0, v0)]).length : Int) = most) (hle : xs.length ≤ 1000000) (hh : -1000000000 ≤ gone ∧ gone ≤ 1000000000) :
    Calls Try.prog 16 #[ptr c, .string k, .string v2] w fun r w' => r = .returned (.tuple #[.string k0, .bool true]) ∧ ∃ e, CRep IS w' c m h most ((e, k, v2) :: xs) hits misses (gone + 1) ∧ w.heap.size ≤ e ∧ Turn (CFp c m h (xs ++ [(b0, k0, v0)])) w w' := by
  obtain ⟨L, hL⟩ : ∃ L, L = xs ++ [(b0, k0, v0)] := ⟨_, rfl⟩
  have HLL := Lib.hid hL
  rw [← hL] at H hk hlt
  clear hL
  have HH := Lib.hid H
  have hl : (Instr.lookup 62 (.map (some m)) (Value.string k) true).run Try.prog w = .ok (.tuple #[.pointer none, .bool false]) w := missS H hkey hk
  have c1 : w.cell? ⟨c, 1, none⟩ = some (.map (some m)) := cell_of_block H.blk (by show 1 < 6; decide)
  have HK := Lib.hid hkey
  have HN := Lib.hid (show k ∉ xs.map (·.2.1) from fun hh => hk (by rw [HLL.out, List.map_append]; exact List.mem_append_left _ hh))
  have HLE := Lib.hid hle
  have HK0 := Lib.hid hkey0
  have HL : Hid (∀ ty, (Builtin.len_ #[62] ty #[.map (some m)]).run Try.prog w.drew = .ok (.int .i64 L.length) w.drew) := Lib.hid fun ty => MapF.len (P := Try.prog) (k := 9) (e := 63) (H.map.keep (show w.drew.heap[m]? = w.heap[m]? from rfl)) Try.underlying62 ty
  have hpos : 0 < L.length := by rw [HLL.out]; simp
  have c0 : w.cell? ⟨c, 0, none⟩ = some (.int .i64 most) := cell_of_block H.blk (by show 0 < 6; decide)
  have t0 : (most == 0) = false := by rw [beq_eq_false_iff_ne]; omega
  have t1 : ((L.length : Int) == most) = true := by rw [beq_iff_eq]; omega
  have c2 : w.cell? ⟨c, 2, none⟩ = some (.pointer (some ⟨h, 0, none⟩)) := cell_of_block H.blk (by show 2 < 6; decide)
  have h2 : w.cell? ⟨h, 2, none⟩ = some (.pointer (some ⟨b0, 0, none⟩)) := by
    have := H.ring.chain.last.2
    rw [HLL.out, List.map_append] at this
    rw [show lastOf h (xs.map (fun x : Nat × ByteArray × ByteArray => x.1) ++ [(b0, k0, v0)].map (·.1)) = b0 from lastOf_snoc _ _ _] at this
    exact this
  have k0c : w.cell? ⟨b0, 0, none⟩ = some (.string k0) := H.key (b0, k0, v0) (by rw [HLL.out]; simp)
  clear H hkey hk hle hlt hpos hkey0
  go_enter Try.func16, Try.ntmps16
  go_wp2
  refine wp_region_ord (fun w' => w'.cell? ⟨c, 1, none⟩ = some (.map (some m)) ∧ w'.cell? ⟨c, 0, none⟩ = some (.int .i64 most) ∧ ∀ ty, (Builtin.len_ #[62] ty #[.map (some m)]).run Try.prog w' = .ok (.int .i64 L.length) w') [(0, false), (1, false), (2, false), (3, false), (4, false), (5, false), (6, false), (7, false), (8, false), (9, false), (10, true)] (by kernel_rfl) (by kernel_rfl) (fun _ _ d _ _ h => by cases d <;> exact h) ⟨c1, c0, fun ty => HL.out ty⟩ ?_
  iterate 10
    refine heldL ?_ ?_ (by rfl) (by rfl) (fun w' s1 => ?_) ?_ ?_
    rotate_left 2
    focus (obtain ⟨s1, s2, s3⟩ := s1; go_simp; exact rfl)
    focus (go_simp; exact rfl)
  refine actL (by kernel_rfl) (by rfl) (by rfl) (fun K hK => ?_)
  go_wp2_with fail
  refine nilL ?_
  clear c0 hl t0 c1
  have HH2 := Lib.hid (show CRep IS w.drew c m h most (xs ++ (b0, k0, v0) :: []) hits misses gone from by have := HH.out; rw [HLL.out] at this; exact this.keep fun _ _ => rfl)
  go_wp2_with fail
  refine (forgetS c m h b0 most hits misses gone k0 v0 xs [] _ HH2.out HK0.out).mono ?_
  rintro r w1 ⟨rfl, h1, hT1, hS1⟩
  rw [List.append_nil] at h1
  have c5 : w1.cell? ⟨c, 5, none⟩ = some (.int .i64 gone) := cell_of_block h1.blk (by show 5 < 6; decide)
  have f5 : w1.frozen? ⟨c, 5, none⟩ = false := frozen_of_block h1.blk
  have HC := Lib.hid (show CRep IS (w1.setCell ⟨c, 5, none⟩ (.int .i64 (gone + 1))) c m h most xs hits misses (gone + 1) from h1.counted okS (block_setCell h1.blk _) (fun i _ hi => block_other (Ne.symm hi) _))
  have HT1 := Lib.hid hT1
  have HS1 := Lib.hid (show (w1.setCell ⟨c, 5, none⟩ (.int .i64 (gone + 1))).heap.size = w.heap.size by simp [World.setCell]; exact hS1)
  clear h1 hT1 hS1 c2 h2 k0c
  go_upto_region 16 with (fail)
  obtain ⟨w0, hw0⟩ : ∃ w0, w0 = w1.setCell ⟨c, 5, none⟩ (.int .i64 (gone + 1)) := ⟨_, rfl⟩
  have HT0 := Lib.hid (show Turn (CFp c m h L) w w0 by
    rw [hw0]
    refine Turn.setCell (Turn.mono (F := CFp c m h (xs ++ [(b0, k0, v0)])) (G := CFp c m h L) (show Turn _ w w1 from ⟨HT1.out.os, HT1.out.tape, HT1.out.output, HT1.out.size, HT1.out.block⟩) fun i hi => .inl (by rw [HLL.out]; exact hi)) (.inl (.inl rfl)) _)
  rw [← hw0] at HC HS1 ⊢
  clear hw0 HT1 c5 f5
  have HCA := Lib.hid (HC.out.alloc (.cells #[.string k, .string v2, .pointer none, .pointer none] 65))
  have HE := Lib.hid (show Node 65 4 (w0.alloc (.cells #[.string k, .string v2, .pointer none, .pointer none] 65)) w0.heap.size from ⟨_, (MapKept.heap_alloc w0 _).1, rfl⟩)
  have HX := Lib.hid (show w0.heap.size ∉ h :: (xs).map (·.1) from fun hh => by have := (HC.out.ring.node _ hh).lt; omega)
  have c2 : (w0.alloc (.cells #[.string k, .string v2, .pointer none, .pointer none] 65)).cell? ⟨c, 2, none⟩ = some (.pointer (some ⟨h, 0, none⟩)) := cell_of_block HCA.out.blk (by show 2 < 6; decide)
  go_wp2_with fail
  refine (linkRS h w0.heap.size ((xs).map (·.1)) _ (show Ring 65 4 2 3 _ h (List.map (fun x : Nat × ByteArray × ByteArray => x.1) (xs)) from HCA.out.ring) HE.out HX.out).mono ?_
  rintro r w2 ⟨rfl, hr2, ht2⟩
  have HR2 := Lib.hid hr2
  have HT2 := Lib.hid ht2
  have hF : ∀ i, i ∈ w0.heap.size :: h :: (xs).map (·.1) → Node 65 4 (w0.alloc (.cells #[.string k, .string v2, .pointer none, .pointer none] 65)) i := by
    intro i hi
    rcases List.mem_cons.1 hi with h1 | h1
    · rw [h1]; exact HE.out
    · exact HCA.out.ring.node i h1
  have hk2 : w2.heap[c]? = (w0.alloc (.cells #[.string k, .string v2, .pointer none, .pointer none] 65)).heap[c]? := ht2.turn.block c (block_lt HCA.out.blk) (fun hf => HCA.out.c_ne okS (hF c hf) rfl)
  have hk3 : w2.heap[m]? = (w0.alloc (.cells #[.string k, .string v2, .pointer none, .pointer none] 65)).heap[m]? := ht2.turn.block m HCA.out.map.lt (fun hf => HCA.out.m_ne (hF m hf) rfl)
  have c1' : w2.cell? ⟨c, 1, none⟩ = some (.map (some m)) := cell_of_block (hk2.trans HCA.out.blk) (by show 1 < 6; decide)
  have HM := Lib.hid (show MapF Try.prog 9 w2 m (lookL IS.kl (xs)) (xs).length from HCA.out.map.keep hk3)
  clear hr2 ht2 hF hk2 hk3 c2
  go_wp2_with (at_mapUpdate; refine wpList_mapF_store (by rfl) (.tmp 92) (.tmp 93) (.tmp 94) 62 (by rfl) 9 63 kdS Try.underlying62 m _ _ (by rfl) HM.out (by have := HLE.out; unfold maxLen; simp at this ⊢; omega) (.string k) (ptr w0.heap.size) (IS.kl k) (by rfl) (by rfl) HK.out ?_)
  intro w3 hm3 htu
  rw [lookL_none okS.inj HN.out] at hm3
  have HF := Lib.hid (HC.out.added okS HN.out (cs := #[.string k, .string v2, .pointer none, .pointer none]) (v := v2) rfl rfl (fun j u hu => by
    match j, hu with
    | 0, hu => exact hu) HR2.out HT2.out hm3 htu)
  clear hm3 htu c1'
  go_wp2
  go_ret2
  refine ⟨rfl, w0.heap.size, HF.out.1, by rw [HS1.out]; exact Nat.le_refl _, ?_⟩
  rw [← HLL.out]
  refine HT0.out.trans (HF.out.2.mono fun i hi => .inl ?_)
  rcases hi with h1 | h1 | h1
  · exact .inl h1
  · exact .inr (.inl h1)
  · refine .inr (.inr ?_)
    rw [HLL.out, List.map_append]
    rcases List.mem_cons.1 h1 with h2 | h2
    · rw [h2]; simp
    · exact List.mem_cons_of_mem _ (List.mem_append_left _ h2)
end Go.Proofs.Ytfkdmbiejledoaa
