import Derived.Test.YtblkehdpenfhjaaGreatDoorR0
set_option linter.unnecessarySimpa false
set_option linter.unusedVariables false
set_option linter.unusedSimpArgs false
/-
  mac.Crc: a check sum.
-/
set_option linter.unusedVariables false
set_option linter.unusedSimpArgs false
namespace Go.Proofs.YtblkehdpenfhjaaGreatDoor
open Go.RowKit

def crcStep (v : Nat) : Nat := if v % 2 = 1 then (v / 2) ^^^ 3988292384 else v / 2
def crcN : Nat → Nat → Nat
  | 0, v => v
  | k + 1, v => crcStep (crcN k v)
theorem crcStep_lt {v : Nat} (h : v < 4294967296) : crcStep v < 4294967296 := by
  unfold crcStep
  split
  · exact Nat.xor_lt_two_pow (n := 32) (by omega) (by decide)
  · omega
theorem crcN_lt {v : Nat} (h : v < 4294967296) : ∀ k, crcN k v < 4294967296
  | 0 => h
  | k + 1 => crcStep_lt (crcN_lt h k)
/-- the table, of which k rows stand -/
def crcTab (k : Nat) : Array Value := ((List.range 256).map fun i => Value.int .u32 ((if i < k then crcN 8 i else 0 : Nat) : Int)).toArray
theorem crcTab_size (k : Nat) : (crcTab k).size = 256 := by simp [crcTab]
theorem crcTab_set (k : Nat) (h : k < 256) : (crcTab k).setIfInBounds k (.int .u32 ((crcN 8 k : Nat) : Int)) = crcTab (k + 1) := by
  unfold crcTab
  apply Array.ext'
  rw [Array.toList_setIfInBounds]
  apply List.ext_getElem
  · simp
  · intro i h1 h2
    simp only [List.length_map, List.length_range] at h2
    rw [List.getElem_set]
    split
    · rename_i he; subst he; simp
    · rename_i he
      simp only [List.getElem_map, List.getElem_range]
      have : (i < k + 1) = (i < k) := by simp only [eq_iff_iff]; omega
      simp only [this]
theorem crcTab_one (k : Nat) : (crcTab k).all (·.oneCell') = true := by
  rw [Array.all_eq_true]
  intro i hi
  simp [crcTab, Value.oneCell']
theorem crcTab_at (z : Nat) (h : z < 256) : (crcTab 256)[z]'(by rw [crcTab_size]; exact h) = .int .u32 ((crcN 8 z : Nat) : Int) := by
  simp [crcTab, h]
theorem and1 (v : Nat) (h : v < 4294967296) : bits .and .u32 (v : Int) 1 = ((v % 2 : Nat) : Int) := by
  have := u32_and_nat v 1 h (by decide)
  rw [nat_mask1] at this
  exact this
theorem xorPoly (v : Nat) (h : v < 4294967296) : bits .xor .u32 (v : Int) 3988292384 = ((v ^^^ 3988292384 : Nat) : Int) := u32_xor_nat v 3988292384 h (by decide)
theorem zeroTab (w : World) : (zeroValue 343).run Tryz.prog w = .ok (.agg (crcTab 0)) w := by kernel_rfl
set_option maxHeartbeats 4000000 in
set_option maxRecDepth 100000 in
theorem table_calls (w : World) : Calls Tryz.prog 320 #[] w fun r w' => r = .returned (.agg (crcTab 256)) ∧ Below w.heap.size w w' := by
  have hz := zeroTab
  have hb0 : Below w.heap.size w ((w.alloc (.cells (crcTab 0) 343)).alloc (.cells (crcTab 0) 343)) := ((Below.refl _ _).alloc (Nat.le_refl _) _).alloc (by simp) _
  have hB1 : ((w.alloc (.cells (crcTab 0) 343)).alloc (.cells (crcTab 0) 343)).heap[w.heap.size]? = some (.cells (crcTab 0) 343 (0, 0)) := by
    rw [Below.heap_alloc _ _ _ (by simp)]; exact (MapKept.heap_alloc w _).1
  have hB2 : ((w.alloc (.cells (crcTab 0) 343)).alloc (.cells (crcTab 0) 343)).heap[w.heap.size + 1]? = some (.cells (crcTab 0) 343 (0, 0)) := by have := (MapKept.heap_alloc (w.alloc (.cells (crcTab 0) 343)) (.cells (crcTab 0) 343)).1; simpa using this
  have HB1 := Lib.hid hB1
  have HB2 := Lib.hid hB2
  have HB0 := Lib.hid hb0
  clear hB1 hB2 hb0
  go_enter Tryz.func320, Tryz.ntmps320
  go_wp2
  go_loopw [5] (fun v wr => ∃ k : Nat, k ≤ 256 ∧ v = .int .i64 k ∧ Hid (wr.heap[w.heap.size]? = some (.cells (crcTab 0) 343 (0, 0))) ∧ Hid (wr.heap[w.heap.size + 1]? = some (.cells (crcTab k) 343 (0, 0))) ∧ Hid (Below w.heap.size w wr)) (fun v _ => 256 - (intOf v).toNat)
  case atStart => exact ⟨0, Nat.zero_le _, rfl, HB1, HB2, HB0⟩
  case round =>
    clear HB1 HB2 HB0
    obtain ⟨k, hk, rfl, HB1, HB2, HB0⟩ := hrel
    by_cases hlt : k < 256
    · obtain ⟨w1, hw1⟩ : ∃ w1, w1 = wr := ⟨_, rfl⟩
      have HW1 := Lib.hid hw1
      clear hw1
      have HB1w := Lib.hid (show w1.heap[w.heap.size]? = some (.cells (crcTab 0) 343 (0, 0)) from HW1.out ▸ HB1.out)
      have HB2w := Lib.hid (show w1.heap[w.heap.size + 1]? = some (.cells (crcTab k) 343 (0, 0)) from HW1.out ▸ HB2.out)
      have HB0w := Lib.hid (show Below w.heap.size w w1 from HW1.out ▸ HB0.out)
      go_wp2
      go_loopw [10, 3] (fun jv v wr => ∃ (j x : Nat), jv = .int .i64 j ∧ v = .int .u32 x ∧ j ≤ 8 ∧ x < 4294967296 ∧ Hid (x = crcN j k) ∧ w1 = wr) (fun jv _ _ => 8 - (intOf jv).toNat)
      case atStart => exact ⟨0, k, rfl, rfl, by omega, by omega, Lib.hid rfl, HW1.out⟩
      case round =>
        obtain ⟨j, x, rfl, rfl, hj, hx, HX, rfl⟩ := hrel
        by_cases hj8 : j < 8
        · have ha := and1 x hx
          have HS := Lib.hid (show crcN (j + 1) k = if x % 2 = 1 then (x / 2) ^^^ 3988292384 else x / 2 by show crcStep (crcN j k) = _; rw [← HX.out]; rfl)
          have hxp := xorPoly (x / 2) (by omega)
          have HLX := Lib.hid (show (x / 2) ^^^ 3988292384 < 4294967296 from Nat.xor_lt_two_pow (n := 32) (by omega) (by decide))
          obtain ⟨y, hy⟩ : ∃ y, y = x % 2 := ⟨_, rfl⟩
          obtain ⟨q, hq⟩ : ∃ q, q = x / 2 := ⟨_, rfl⟩
          have hqq : (x : Int) / 2 = (q : Int) := by omega
          have HQ := Lib.hid (show q < 4294967296 by omega)
          rw [← hy] at ha HS
          rw [← hq] at hxp HS HLX
          obtain ⟨p, hp⟩ : ∃ p, p = q ^^^ 3988292384 := ⟨_, rfl⟩
          rw [← hp] at hxp HS HLX
          clear hy hq hp
          by_cases h1 : y = 1
          · have t1 : ((y : Int) == 1) = true := by rw [beq_iff_eq]; omega
            have HE := Lib.hid (show p = crcN (j + 1) k by rw [HS.out, if_pos h1])
            clear h1
            go_wp2
            exact ⟨⟨j + 1, p, by go_num, rfl, by omega, HLX.out, HE, by first | rfl | trivial⟩, by simp [intOf]; omega⟩
          · have t1 : ((y : Int) == 1) = false := by rw [beq_eq_false_iff_ne]; omega
            have HE := Lib.hid (show q = crcN (j + 1) k by rw [HS.out, if_neg h1])
            clear h1
            go_wp2
            exact ⟨⟨j + 1, q, by go_num, rfl, by omega, HQ.out, HE, by first | rfl | trivial⟩, by simp [intOf]; omega⟩
        · obtain rfl : j = 8 := by omega
          have hcell := cell_of_block (off := k) HB2w.out (by rw [crcTab_size]; exact hlt)
          have hfr := frozen_of_block (off := k) HB2w.out
          obtain ⟨u0, hu0⟩ : ∃ u, u = (crcTab k)[k]'(by rw [crcTab_size]; exact hlt) := ⟨_, rfl⟩
          rw [← hu0] at hcell
          clear hu0
          go_wp2
          go_roundw
          case rel => exact ⟨k + 1, by omega, by go_num, Lib.hid ((block_other (by omega) _).trans HB1w.out), Lib.hid (by rw [← crcTab_set k hlt, ← HX.out]; exact block_setCell HB2w.out _), Lib.hid (HB0w.out.setCell (by simp) _)⟩
          case measure => simp [intOf]; omega
    · obtain rfl : k = 256 := by omega
      have hsz : (Tryz.prog.info? 343).map (·.size) = some (crcTab 256).size := by rw [crcTab_size]; kernel_rfl
      have hsz2 : (crcTab 0).size = (crcTab 256).size := by rw [crcTab_size, crcTab_size]
      have hfin := setRow_heap wr w.heap.size (crcTab 0) (crcTab 256) 343 _ HB1.out
      have hb := below_setRow HB0.out (Nat.le_refl _) (crcTab 256)
      have H2 := Lib.hid hsz
      have H3 := Lib.hid hsz2
      have H4 := Lib.hid hfin
      have H5 := Lib.hid hb
      clear hsz hsz2 hfin hb
      go_wp2_with (first | (refine wpList_load_row rfl 343 _ rfl _ rfl 343 _ _ _ HB2.out Tryz.underlying343 rfl H2.out ?_) | (refine wpList_store_row rfl 343 _ _ rfl _ _ rfl rfl 343 _ HB1.out H2.out H3.out (crcTab_one 256) ?_))
      refine bodyPost_ret (results_cell_row rfl _ _ _ _ _ _ _ rfl H4.out Tryz.underlying343 rfl H2.out) rfl ⟨rfl, H5.out⟩
def crcL (v : Nat) (l : List UInt8) : Nat := l.foldl (fun v c => (v / 256) ^^^ crcN 8 ((v % 256) ^^^ c.toNat)) v
theorem xor256 (v c : Nat) (hc : c < 256) : (v % 256) ^^^ c < 256 := Nat.xor_lt_two_pow (n := 8) (by omega) hc
theorem crcL_lt : ∀ (l : List UInt8) (v : Nat), v < 4294967296 → crcL v l < 4294967296
  | [], v, h => h
  | c :: l, v, h => by
    show crcL _ l < _
    refine crcL_lt l _ (Nat.xor_lt_two_pow (n := 32) (by omega) (crcN_lt ?_ 8))
    have := xor256 v c.toNat c.toNat_lt
    omega
def crcF (s : ByteArray) : Nat := 4294967295 ^^^ crcL 4294967295 s.data.toList
theorem crcF_lt (s : ByteArray) : crcF s < 4294967296 := Nat.xor_lt_two_pow (n := 32) (by decide) (crcL_lt _ _ (by decide))
theorem crcL_snoc (v : Nat) (l : List UInt8) (c : UInt8) : crcL v (l ++ [c]) = (crcL v l / 256) ^^^ crcN 8 ((crcL v l % 256) ^^^ c.toNat) := by unfold crcL; rw [List.foldl_append]; rfl
theorem take_step (s : ByteArray) (i : Nat) (h : i < s.size) : s.data.toList.take (i + 1) = s.data.toList.take i ++ [s[i]] := by
  have hl : i < s.data.toList.length := by simpa using h
  rw [List.take_succ_eq_append_getElem hl]
  congr 1
set_option maxHeartbeats 4000000 in
set_option maxRecDepth 100000 in
theorem crcOn_calls (s : ByteArray) (hs : s.size ≤ maxLen) (w : World) : Calls Tryz.prog 274 #[.int .u32 0, .string s] w fun r w' => r = .returned (.int .u32 (crcF s)) ∧ Below w.heap.size w w' := by
  have HS := Lib.hid hs
  have hs63 : s.size ≤ 9223372036854775807 := by unfold maxLen at hs; omega
  have HS63 := Lib.hid hs63
  clear hs hs63
  go_enter Tryz.func274, Tryz.ntmps274
  go_wp2_with fail
  refine (table_calls w).mono ?_
  rintro r w1 ⟨rfl, hb⟩
  have hz := zeroTab
  have hblk := (MapKept.heap_alloc w1 (.cells (crcTab 0) 343)).1
  have HBK0 := Lib.hid hblk
  have hsz : (Tryz.prog.info? 343).map (·.size) = some (crcTab 256).size := by rw [crcTab_size]; kernel_rfl
  have hsz2 : (crcTab 0).size = (crcTab 256).size := by rw [crcTab_size, crcTab_size]
  have hfin := setRow_heap (w1.alloc (.cells (crcTab 0) 343)) w1.heap.size (crcTab 0) (crcTab 256) 343 _ hblk
  have hbb := below_setRow (hb.alloc hb.size (.cells (crcTab 0) 343)) hb.size (crcTab 256)
  have hltS : w1.heap.size < ((w1.alloc (.cells (crcTab 0) 343)).setRow w1.heap.size (crcTab 256)).heap.size := block_lt hfin
  have H2 := Lib.hid hsz
  have H3 := Lib.hid hsz2
  clear hsz hsz2 hblk hb
  obtain ⟨w2, hw2⟩ : ∃ w2, w2 = (w1.alloc (.cells (crcTab 0) 343)).setRow w1.heap.size (crcTab 256) := ⟨_, rfl⟩
  rw [← hw2] at hfin hbb hltS
  have HBK := Lib.hid hfin
  have HBB := Lib.hid hbb
  obtain ⟨g, hg⟩ : ∃ g, g = w1.heap.size := ⟨_, rfl⟩
  have HGW := Lib.hid hg
  rw [← hg] at HBK
  clear hfin hbb hltS hg
  go_wp2_with (refine wpList_store_row rfl 343 _ _ rfl _ _ rfl rfl 343 _ HBK0.out H2.out H3.out (crcTab_one 256) ?_)
  rw [← hw2, ← HGW.out]
  clear hw2 hz
  have hn0 : bits .xor .u32 IntKind.u32.max 0 = 4294967295 := by decide +kernel
  have hs63 : s.size ≤ 9223372036854775807 := HS63.out
  go_wp2
  all_goals
    go_loopw [13, 6] (fun iv v wr => ∃ (i x : Nat), iv = .int .i64 i ∧ v = .int .u32 x ∧ i ≤ s.size ∧ x < 4294967296 ∧ Hid (x = crcL 4294967295 (s.data.toList.take i)) ∧ w2 = wr) (fun iv _ _ => s.size - (intOf iv).toNat)
    case atStart => exact ⟨0, 4294967295, rfl, rfl, by omega, by decide, Lib.hid rfl, rfl⟩
    case round =>
      obtain ⟨i, x, rfl, rfl, hi, hx, HX, rfl⟩ := hrel
      by_cases hlt : i < s.size
      · have hc := s[i].toNat_lt
        have HE := Lib.hid (show crcL 4294967295 (s.data.toList.take (i + 1)) = (x / 256) ^^^ crcN 8 ((x % 256) ^^^ s[i].toNat) by rw [take_step s i hlt, crcL_snoc, ← HX.out])
        have h8 := u8_xor_nat (x % 256) s[i].toNat (by omega) hc
        have hxm : (x : Int) % 256 = ((x % 256 : Nat) : Int) := by omega
        have HZ := Lib.hid (xor256 x s[i].toNat hc)
        obtain ⟨c, hcc⟩ : ∃ c, c = s[i].toNat := ⟨_, rfl⟩
        have hidx : (s[i].toNat : Int) = (c : Int) := by rw [hcc]
        have h9 : bits .xor .u8 ((x : Int) % 256) (s[i].toNat : Int) = (((x % 256) ^^^ s[i].toNat : Nat) : Int) := by rw [hxm]; exact h8
        obtain ⟨z, hz⟩ : ∃ z, z = (x % 256) ^^^ s[i].toNat := ⟨_, rfl⟩
        rw [← hz] at HE h9 HZ
        have hz256 : z < 256 := HZ.out
        have hcell : w2.cell? ⟨g, z, none⟩ = some (.int .u32 ((crcN 8 z : Nat) : Int)) := by
          rw [cell_of_block (off := z) HBK.out (by rw [crcTab_size]; exact hz256), crcTab_at z hz256]
        have HY := Lib.hid (crcN_lt (v := z) (by omega) 8)
        obtain ⟨y, hy⟩ : ∃ y, y = crcN 8 z := ⟨_, rfl⟩
        rw [← hy] at HE HY hcell
        obtain ⟨q, hq⟩ : ∃ q, q = x / 256 := ⟨_, rfl⟩
        have hqq : (x : Int) / 256 = (q : Int) := by omega
        rw [← hq] at HE
        have h10 := u32_xor_nat q y (by omega) HY.out
        have HP := Lib.hid (show q ^^^ y < 4294967296 from Nat.xor_lt_two_pow (n := 32) (by omega) HY.out)
        obtain ⟨p, hp⟩ : ∃ p, p = q ^^^ y := ⟨_, rfl⟩
        rw [← hp] at HE h10 HP
        clear hcc hidx h8 hxm hz hy hq hp hc
        go_wp2
        exact ⟨⟨i + 1, p, by go_num, rfl, by omega, HP.out, Lib.hid HE.out.symm, by first | rfl | trivial⟩, by simp [intOf]; omega⟩
      · obtain rfl : i = s.size := by omega
        have HE := Lib.hid (show crcF s = 4294967295 ^^^ x by unfold crcF; rw [HX.out, List.take_of_length_le (by simp)])
        have h10 : bits .xor .u32 IntKind.u32.max (x : Int) = ((4294967295 ^^^ x : Nat) : Int) := u32_xor_nat 4294967295 x (by decide) hx
        obtain ⟨p, hp⟩ : ∃ p, p = 4294967295 ^^^ x := ⟨_, rfl⟩
        rw [← hp] at HE h10
        clear hp
        go_wp2
        go_ret
        exact ⟨by rw [HE.out]; rfl, HBB.out⟩
theorem crc_calls (s : ByteArray) (hs : s.size ≤ maxLen) (w : World) : Calls Tryz.prog 213 #[.string s] w fun r w' => r = .returned (.int .u32 (crcF s)) ∧ Below w.heap.size w w' := by
  have HS := Lib.hid hs
  clear hs
  go_enter Tryz.func213, Tryz.ntmps213
  go_wp2_with fail
  refine (crcOn_calls s HS.out w).mono ?_
  rintro r w1 ⟨rfl, hb⟩
  have HB := Lib.hid hb
  clear hb
  go_wp2
  go_ret
  exact ⟨rfl, HB.out⟩
end Go.Proofs.YtblkehdpenfhjaaGreatDoor
/-
  Package sha, its small functions: number, turned, put.
-/
set_option linter.unusedVariables false
set_option linter.unusedSimpArgs false
namespace Go.Proofs.YtblkehdpenfhjaaGreatDoor
open Go.RowKit

def numL (l : List UInt8) : Nat := l.foldl (fun v c => (v * 256 % 4294967296) ||| c.toNat) 0
theorem numL_snoc (l : List UInt8) (c : UInt8) : numL (l ++ [c]) = (numL l * 256 % 4294967296) ||| c.toNat := by unfold numL; rw [List.foldl_append]; rfl
theorem or_lt32 {a b : Nat} (ha : a < 4294967296) (hb : b < 4294967296) : a ||| b < 4294967296 := Nat.or_lt_two_pow (n := 32) ha hb
theorem number_sha_calls (s : ByteArray) (hs : s.size ≤ 64) (w : World) : Calls Tryz.prog 380 #[.string s] w fun r w' => r = .returned (.int .u32 (numL s.data.toList)) ∧ numL s.data.toList < 4294967296 ∧ w = w' := by
  have HS := Lib.hid hs
  go_enter Tryz.func380, Tryz.ntmps380
  go_wp2
  all_goals
    go_loopw [7, 3] (fun iv v wr => ∃ (i x : Nat), iv = .int .i64 i ∧ v = .int .u32 x ∧ i ≤ s.size ∧ x < 4294967296 ∧ Hid (x = numL (s.data.toList.take i)) ∧ w = wr) (fun iv _ _ => s.size - (intOf iv).toNat)
    case atStart => exact ⟨0, 0, rfl, rfl, by omega, by decide, Lib.hid rfl, rfl⟩
    case round =>
      obtain ⟨i, x, rfl, rfl, hi, hx, HX, rfl⟩ := hrel
      by_cases hlt : i < s.size
      · have hc := s[i].toNat_lt
        have HE := Lib.hid (show numL (s.data.toList.take (i + 1)) = (x * 256 % 4294967296) ||| s[i].toNat by rw [take_step s i hlt, numL_snoc, ← HX.out])
        have h9 := u32_or_nat (x * 256 % 4294967296) s[i].toNat (by omega) (by omega)
        obtain ⟨q, hq⟩ : ∃ q, q = x * 256 % 4294967296 := ⟨_, rfl⟩
        have hqq : (x : Int) * 256 % 4294967296 = (q : Int) := by omega
        rw [← hq] at HE h9
        have HP := Lib.hid (show q ||| s[i].toNat < 4294967296 from or_lt32 (by omega) (by omega))
        obtain ⟨p, hp⟩ : ∃ p, p = q ||| s[i].toNat := ⟨_, rfl⟩
        rw [← hp] at HE h9 HP
        obtain ⟨c, hcc⟩ : ∃ c, c = s[i].toNat := ⟨_, rfl⟩
        have hcm : (s[i].toNat : Int) % 4294967296 = (c : Int) := by omega
        rw [← hcc] at h9
        clear hq hp hc hcc
        go_wp2
        exact ⟨⟨i + 1, p, by go_num, rfl, by omega, HP.out, Lib.hid HE.out.symm, by first | rfl | trivial⟩, by simp [intOf]; omega⟩
      · obtain rfl : i = s.size := by omega
        have HE := Lib.hid (show x = numL s.data.toList by rw [HX.out, List.take_of_length_le (by simp)])
        go_wp2
        go_ret
        exact ⟨by rw [HE.out]; rfl, by rw [← HE.out]; exact hx, rfl⟩
/-- x turned right by k -/
def rotr (x k : Nat) : Nat := (x * 2 ^ (32 - k) % 4294967296) ||| (x / 2 ^ k)
theorem rotr_lt {x : Nat} (k : Nat) (h : x < 4294967296) : rotr x k < 4294967296 := or_lt32 (Nat.mod_lt _ (by decide)) (Nat.lt_of_le_of_lt (Nat.div_le_self _ _) h)
set_option maxHeartbeats 4000000 in
set_option maxRecDepth 100000 in
theorem turned7_calls (x : Nat) (hx : x < 4294967296) (w : World) : Calls Tryz.prog 377 #[.int .u32 x, .int .i64 7] w fun r w' => r = .returned (.int .u32 (rotr x 7)) ∧ w = w' := by
  have hk : bits .and .u64 (IntKind.u64.wrap (-7)) 31 = 25 := by decide +kernel
  have HR := Lib.hid (show rotr x 7 = (x * 33554432 % 4294967296) ||| (x / 128) from rfl)
  have h9 := u32_or_nat (x * 33554432 % 4294967296) (x / 128) (by omega) (by omega)
  obtain ⟨a, ha⟩ : ∃ a, a = x * 33554432 % 4294967296 := ⟨_, rfl⟩
  have haa : (x : Int) * 33554432 % 4294967296 = (a : Int) := by omega
  obtain ⟨b, hb⟩ : ∃ b, b = x / 128 := ⟨_, rfl⟩
  have hbb : (x : Int) / 128 = (b : Int) := by omega
  rw [← ha, ← hb] at h9 HR
  clear ha hb hx
  go_enter Tryz.func377, Tryz.ntmps377
  go_wp2
  go_ret
  exact ⟨by rw [HR.out]; rfl, rfl⟩
set_option maxHeartbeats 4000000 in
set_option maxRecDepth 100000 in
theorem turned18_calls (x : Nat) (hx : x < 4294967296) (w : World) : Calls Tryz.prog 377 #[.int .u32 x, .int .i64 18] w fun r w' => r = .returned (.int .u32 (rotr x 18)) ∧ w = w' := by
  have hk : bits .and .u64 (IntKind.u64.wrap (-18)) 31 = 14 := by decide +kernel
  have HR := Lib.hid (show rotr x 18 = (x * 16384 % 4294967296) ||| (x / 262144) from rfl)
  have h9 := u32_or_nat (x * 16384 % 4294967296) (x / 262144) (by omega) (by omega)
  obtain ⟨a, ha⟩ : ∃ a, a = x * 16384 % 4294967296 := ⟨_, rfl⟩
  have haa : (x : Int) * 16384 % 4294967296 = (a : Int) := by omega
  obtain ⟨b, hb⟩ : ∃ b, b = x / 262144 := ⟨_, rfl⟩
  have hbb : (x : Int) / 262144 = (b : Int) := by omega
  rw [← ha, ← hb] at h9 HR
  clear ha hb hx
  go_enter Tryz.func377, Tryz.ntmps377
  go_wp2
  go_ret
  exact ⟨by rw [HR.out]; rfl, rfl⟩
set_option maxHeartbeats 4000000 in
set_option maxRecDepth 100000 in
theorem turned17_calls (x : Nat) (hx : x < 4294967296) (w : World) : Calls Tryz.prog 377 #[.int .u32 x, .int .i64 17] w fun r w' => r = .returned (.int .u32 (rotr x 17)) ∧ w = w' := by
  have hk : bits .and .u64 (IntKind.u64.wrap (-17)) 31 = 15 := by decide +kernel
  have HR := Lib.hid (show rotr x 17 = (x * 32768 % 4294967296) ||| (x / 131072) from rfl)
  have h9 := u32_or_nat (x * 32768 % 4294967296) (x / 131072) (by omega) (by omega)
  obtain ⟨a, ha⟩ : ∃ a, a = x * 32768 % 4294967296 := ⟨_, rfl⟩
  have haa : (x : Int) * 32768 % 4294967296 = (a : Int) := by omega
  obtain ⟨b, hb⟩ : ∃ b, b = x / 131072 := ⟨_, rfl⟩
  have hbb : (x : Int) / 131072 = (b : Int) := by omega
  rw [← ha, ← hb] at h9 HR
  clear ha hb hx
  go_enter Tryz.func377, Tryz.ntmps377
  go_wp2
  go_ret
  exact ⟨by rw [HR.out]; rfl, rfl⟩
set_option maxHeartbeats 4000000 in
set_option maxRecDepth 100000 in
theorem turned19_calls (x : Nat) (hx : x < 4294967296) (w : World) : Calls Tryz.prog 377 #[.int .u32 x, .int .i64 19] w fun r w' => r = .returned (.int .u32 (rotr x 19)) ∧ w = w' := by
  have hk : bits .and .u64 (IntKind.u64.wrap (-19)) 31 = 13 := by decide +kernel
  have HR := Lib.hid (show rotr x 19 = (x * 8192 % 4294967296) ||| (x / 524288) from rfl)
  have h9 := u32_or_nat (x * 8192 % 4294967296) (x / 524288) (by omega) (by omega)
  obtain ⟨a, ha⟩ : ∃ a, a = x * 8192 % 4294967296 := ⟨_, rfl⟩
  have haa : (x : Int) * 8192 % 4294967296 = (a : Int) := by omega
  obtain ⟨b, hb⟩ : ∃ b, b = x / 524288 := ⟨_, rfl⟩
  have hbb : (x : Int) / 524288 = (b : Int) := by omega
  rw [← ha, ← hb] at h9 HR
  clear ha hb hx
  go_enter Tryz.func377, Tryz.ntmps377
  go_wp2
  go_ret
  exact ⟨by rw [HR.out]; rfl, rfl⟩
set_option maxHeartbeats 4000000 in
set_option maxRecDepth 100000 in
theorem turned6_calls (x : Nat) (hx : x < 4294967296) (w : World) : Calls Tryz.prog 377 #[.int .u32 x, .int .i64 6] w fun r w' => r = .returned (.int .u32 (rotr x 6)) ∧ w = w' := by
  have hk : bits .and .u64 (IntKind.u64.wrap (-6)) 31 = 26 := by decide +kernel
  have HR := Lib.hid (show rotr x 6 = (x * 67108864 % 4294967296) ||| (x / 64) from rfl)
  have h9 := u32_or_nat (x * 67108864 % 4294967296) (x / 64) (by omega) (by omega)
  obtain ⟨a, ha⟩ : ∃ a, a = x * 67108864 % 4294967296 := ⟨_, rfl⟩
  have haa : (x : Int) * 67108864 % 4294967296 = (a : Int) := by omega
  obtain ⟨b, hb⟩ : ∃ b, b = x / 64 := ⟨_, rfl⟩
  have hbb : (x : Int) / 64 = (b : Int) := by omega
  rw [← ha, ← hb] at h9 HR
  clear ha hb hx
  go_enter Tryz.func377, Tryz.ntmps377
  go_wp2
  go_ret
  exact ⟨by rw [HR.out]; rfl, rfl⟩
set_option maxHeartbeats 4000000 in
set_option maxRecDepth 100000 in
theorem turned11_calls (x : Nat) (hx : x < 4294967296) (w : World) : Calls Tryz.prog 377 #[.int .u32 x, .int .i64 11] w fun r w' => r = .returned (.int .u32 (rotr x 11)) ∧ w = w' := by
  have hk : bits .and .u64 (IntKind.u64.wrap (-11)) 31 = 21 := by decide +kernel
  have HR := Lib.hid (show rotr x 11 = (x * 2097152 % 4294967296) ||| (x / 2048) from rfl)
  have h9 := u32_or_nat (x * 2097152 % 4294967296) (x / 2048) (by omega) (by omega)
  obtain ⟨a, ha⟩ : ∃ a, a = x * 2097152 % 4294967296 := ⟨_, rfl⟩
  have haa : (x : Int) * 2097152 % 4294967296 = (a : Int) := by omega
  obtain ⟨b, hb⟩ : ∃ b, b = x / 2048 := ⟨_, rfl⟩
  have hbb : (x : Int) / 2048 = (b : Int) := by omega
  rw [← ha, ← hb] at h9 HR
  clear ha hb hx
  go_enter Tryz.func377, Tryz.ntmps377
  go_wp2
  go_ret
  exact ⟨by rw [HR.out]; rfl, rfl⟩
set_option maxHeartbeats 4000000 in
set_option maxRecDepth 100000 in
theorem turned25_calls (x : Nat) (hx : x < 4294967296) (w : World) : Calls Tryz.prog 377 #[.int .u32 x, .int .i64 25] w fun r w' => r = .returned (.int .u32 (rotr x 25)) ∧ w = w' := by
  have hk : bits .and .u64 (IntKind.u64.wrap (-25)) 31 = 7 := by decide +kernel
  have HR := Lib.hid (show rotr x 25 = (x * 128 % 4294967296) ||| (x / 33554432) from rfl)
  have h9 := u32_or_nat (x * 128 % 4294967296) (x / 33554432) (by omega) (by omega)
  obtain ⟨a, ha⟩ : ∃ a, a = x * 128 % 4294967296 := ⟨_, rfl⟩
  have haa : (x : Int) * 128 % 4294967296 = (a : Int) := by omega
  obtain ⟨b, hb⟩ : ∃ b, b = x / 33554432 := ⟨_, rfl⟩
  have hbb : (x : Int) / 33554432 = (b : Int) := by omega
  rw [← ha, ← hb] at h9 HR
  clear ha hb hx
  go_enter Tryz.func377, Tryz.ntmps377
  go_wp2
  go_ret
  exact ⟨by rw [HR.out]; rfl, rfl⟩
set_option maxHeartbeats 4000000 in
set_option maxRecDepth 100000 in
theorem turned2_calls (x : Nat) (hx : x < 4294967296) (w : World) : Calls Tryz.prog 377 #[.int .u32 x, .int .i64 2] w fun r w' => r = .returned (.int .u32 (rotr x 2)) ∧ w = w' := by
  have hk : bits .and .u64 (IntKind.u64.wrap (-2)) 31 = 30 := by decide +kernel
  have HR := Lib.hid (show rotr x 2 = (x * 1073741824 % 4294967296) ||| (x / 4) from rfl)
  have h9 := u32_or_nat (x * 1073741824 % 4294967296) (x / 4) (by omega) (by omega)
  obtain ⟨a, ha⟩ : ∃ a, a = x * 1073741824 % 4294967296 := ⟨_, rfl⟩
  have haa : (x : Int) * 1073741824 % 4294967296 = (a : Int) := by omega
  obtain ⟨b, hb⟩ : ∃ b, b = x / 4 := ⟨_, rfl⟩
  have hbb : (x : Int) / 4 = (b : Int) := by omega
  rw [← ha, ← hb] at h9 HR
  clear ha hb hx
  go_enter Tryz.func377, Tryz.ntmps377
  go_wp2
  go_ret
  exact ⟨by rw [HR.out]; rfl, rfl⟩
set_option maxHeartbeats 4000000 in
set_option maxRecDepth 100000 in
theorem turned13_calls (x : Nat) (hx : x < 4294967296) (w : World) : Calls Tryz.prog 377 #[.int .u32 x, .int .i64 13] w fun r w' => r = .returned (.int .u32 (rotr x 13)) ∧ w = w' := by
  have hk : bits .and .u64 (IntKind.u64.wrap (-13)) 31 = 19 := by decide +kernel
  have HR := Lib.hid (show rotr x 13 = (x * 524288 % 4294967296) ||| (x / 8192) from rfl)
  have h9 := u32_or_nat (x * 524288 % 4294967296) (x / 8192) (by omega) (by omega)
  obtain ⟨a, ha⟩ : ∃ a, a = x * 524288 % 4294967296 := ⟨_, rfl⟩
  have haa : (x : Int) * 524288 % 4294967296 = (a : Int) := by omega
  obtain ⟨b, hb⟩ : ∃ b, b = x / 8192 := ⟨_, rfl⟩
  have hbb : (x : Int) / 8192 = (b : Int) := by omega
  rw [← ha, ← hb] at h9 HR
  clear ha hb hx
  go_enter Tryz.func377, Tryz.ntmps377
  go_wp2
  go_ret
  exact ⟨by rw [HR.out]; rfl, rfl⟩
set_option maxHeartbeats 4000000 in
set_option maxRecDepth 100000 in
theorem turned22_calls (x : Nat) (hx : x < 4294967296) (w : World) : Calls Tryz.prog 377 #[.int .u32 x, .int .i64 22] w fun r w' => r = .returned (.int .u32 (rotr x 22)) ∧ w = w' := by
  have hk : bits .and .u64 (IntKind.u64.wrap (-22)) 31 = 10 := by decide +kernel
  have HR := Lib.hid (show rotr x 22 = (x * 1024 % 4294967296) ||| (x / 4194304) from rfl)
  have h9 := u32_or_nat (x * 1024 % 4294967296) (x / 4194304) (by omega) (by omega)
  obtain ⟨a, ha⟩ : ∃ a, a = x * 1024 % 4294967296 := ⟨_, rfl⟩
  have haa : (x : Int) * 1024 % 4294967296 = (a : Int) := by omega
  obtain ⟨b, hb⟩ : ∃ b, b = x / 4194304 := ⟨_, rfl⟩
  have hbb : (x : Int) / 4194304 = (b : Int) := by omega
  rw [← ha, ← hb] at h9 HR
  clear ha hb hx
  go_enter Tryz.func377, Tryz.ntmps377
  go_wp2
  go_ret
  exact ⟨by rw [HR.out]; rfl, rfl⟩
end Go.Proofs.YtblkehdpenfhjaaGreatDoor
/-
  Package sha: put.
-/
set_option linter.unusedVariables false
set_option linter.unusedSimpArgs false
namespace Go.Proofs.YtblkehdpenfhjaaGreatDoor
open Go.RowKit

set_option maxHeartbeats 4000000 in
set_option maxRecDepth 100000 in
theorem put8_calls (v : Nat) (hv : v < 18446744073709551616) (xs : List UInt8) (hx : xs.length ≤ 1000) (bs : Value) (F : Nat → Prop) (w : World) (hr : Row 5 w bs (xs.map bv) F) :
    Calls Tryz.prog 378 #[bs, .int .u64 v, .int .i64 8] w fun r w' => ∃ v', r = .returned v' ∧ Row 5 w' v' ((xs ++ beL 8 v).map bv) (fun b => F b ∨ w.heap.size ≤ b) ∧ Turn F w w' := by
  obtain ⟨i8, hi8, hz0, hz1, hz2⟩ := info_parts infoU8
  have HV := Lib.hid hv
  have HX := Lib.hid hx
  have HR0 := Lib.hid (hr.mono (G := fun b => F b ∨ w.heap.size ≤ b) fun b _ h => .inl h)
  clear hv hx hr
  go_enter Tryz.func378, Tryz.ntmps378
  go_wp2
  go_loopw [0, 2] (fun lv kv wr => ∃ r : Nat, kv = .int .i64 ((r : Int) - 1) ∧ r ≤ 8 ∧ Hid (Row 5 wr lv ((xs ++ (beL 8 v).take (8 - r)).map bv) (fun b => F b ∨ w.heap.size ≤ b)) ∧ Hid (Turn F w wr)) (fun _ kv _ => (intOf kv + 1).toNat)
  case atStart => exact ⟨8, rfl, by omega, Lib.hid (by simpa using HR0.out), Lib.hid (Turn.refl _ _)⟩
  case round =>
    clear HR0
    obtain ⟨r, rfl, hr, HR, HT⟩ := hrel
    have HLX := Lib.hid (show ((xs ++ (beL 8 v).take (8 - r)).map bv).length ≤ 1008 by have := HX.out; simp; omega)
    by_cases h0 : r = 0
    · subst h0
      have HRE := Lib.hid (show Row 5 wr _ ((xs ++ beL 8 v).map bv) _ from by have := HR.out; rw [List.take_of_length_le (by rw [beL_len]; omega)] at this; exact this)
      go_wp2
      go_ret
      exact ⟨_, rfl, HRE.out, HT.out⟩
    · obtain rfl | rfl | rfl | rfl | rfl | rfl | rfl | rfl : r = 1 ∨ r = 2 ∨ r = 3 ∨ r = 4 ∨ r = 5 ∨ r = 6 ∨ r = 7 ∨ r = 8 := by omega
      · have HBV := Lib.hid (bv_ofNat (v / 1))
        have HTK := Lib.hid (show (beL 8 v).take (8 - 0) = (beL 8 v).take (8 - 1) ++ [UInt8.ofNat (v / 1)] from rfl)
        obtain ⟨z, hz⟩ : ∃ z, z = v / 1 % 256 := ⟨_, rfl⟩
        have hzz : (v : Int) % 256 = (z : Int) := by omega
        rw [← hz] at HBV
        obtain ⟨X, hX⟩ : ∃ X, X = (xs ++ (beL 8 v).take (8 - 1)).map bv := ⟨_, rfl⟩
        rw [← hX] at HR HLX
        have HXX := Lib.hid (show X ++ [Value.int .u8 (z : Int)] = (xs ++ (beL 8 v).take (8 - 0)).map bv by rw [HTK.out, ← List.append_assoc, List.map_append (l₁ := xs ++ _), ← hX, show [UInt8.ofNat (v / 1)].map bv = [Value.int .u8 (z : Int)] by rw [List.map_cons, HBV.out]; rfl])
        clear hz h0 hX
        go_wp2_with (at_builtin; go_must (refine wpList_append_row (F := fun b => F b ∨ w.heap.size ≤ b) (news := [Value.int .u8 (z : Int)]) rfl (.tmp 13) (.tmp 19) rfl i8 (.int .u8 0) 1 Tryz.underlying108 hi8 hz0 hz1 hz2 rfl rfl (HR.out.keep fun b hb _ => Below.heap_alloc _ _ b hb) ⟨wr.heap.size, 0, none⟩ 1 1 rfl rfl (World.news_of_block (MapKept.heap_alloc _ _).1) (by intro u hu; simp at hu; subst hu; rfl) (by decide) (by have := HLX.out; unfold maxLen; omega) (by have := HLX.out; omega) ?_))
        intro v2 w3 hrow2 htu2 hcell2
        have HR2 := Lib.hid (show Row 5 w3 v2 ((xs ++ (beL 8 v).take (8 - 0)).map bv) (fun b => F b ∨ w.heap.size ≤ b) from by
          rw [← HXX.out]
          exact hrow2.mono fun b _ h => h.elim id (fun h => .inr (by have := HT.out.size; (try simp at h); omega)))
        have HT2 := Lib.hid (HT.out.trans' (Turn.trans (((Turn.refl (fun b => F b ∨ w.heap.size ≤ b) wr).alloc _)) htu2) (fun i hi => hi))
        clear hrow2 htu2 hcell2
        go_wp2
        exact ⟨⟨0, rfl, by omega, HR2, HT2⟩, by simp [intOf]⟩
      · have HBV := Lib.hid (bv_ofNat (v / 256))
        have HTK := Lib.hid (show (beL 8 v).take (8 - 1) = (beL 8 v).take (8 - 2) ++ [UInt8.ofNat (v / 256)] from rfl)
        obtain ⟨z, hz⟩ : ∃ z, z = v / 256 % 256 := ⟨_, rfl⟩
        have hzz : (v : Int) / 256 % 256 = (z : Int) := by omega
        rw [← hz] at HBV
        obtain ⟨X, hX⟩ : ∃ X, X = (xs ++ (beL 8 v).take (8 - 2)).map bv := ⟨_, rfl⟩
        rw [← hX] at HR HLX
        have HXX := Lib.hid (show X ++ [Value.int .u8 (z : Int)] = (xs ++ (beL 8 v).take (8 - 1)).map bv by rw [HTK.out, ← List.append_assoc, List.map_append (l₁ := xs ++ _), ← hX, show [UInt8.ofNat (v / 256)].map bv = [Value.int .u8 (z : Int)] by rw [List.map_cons, HBV.out]; rfl])
        clear hz h0 hX
        go_wp2_with (at_builtin; go_must (refine wpList_append_row (F := fun b => F b ∨ w.heap.size ≤ b) (news := [Value.int .u8 (z : Int)]) rfl (.tmp 13) (.tmp 19) rfl i8 (.int .u8 0) 1 Tryz.underlying108 hi8 hz0 hz1 hz2 rfl rfl (HR.out.keep fun b hb _ => Below.heap_alloc _ _ b hb) ⟨wr.heap.size, 0, none⟩ 1 1 rfl rfl (World.news_of_block (MapKept.heap_alloc _ _).1) (by intro u hu; simp at hu; subst hu; rfl) (by decide) (by have := HLX.out; unfold maxLen; omega) (by have := HLX.out; omega) ?_))
        intro v2 w3 hrow2 htu2 hcell2
        have HR2 := Lib.hid (show Row 5 w3 v2 ((xs ++ (beL 8 v).take (8 - 1)).map bv) (fun b => F b ∨ w.heap.size ≤ b) from by
          rw [← HXX.out]
          exact hrow2.mono fun b _ h => h.elim id (fun h => .inr (by have := HT.out.size; (try simp at h); omega)))
        have HT2 := Lib.hid (HT.out.trans' (Turn.trans (((Turn.refl (fun b => F b ∨ w.heap.size ≤ b) wr).alloc _)) htu2) (fun i hi => hi))
        clear hrow2 htu2 hcell2
        go_wp2
        exact ⟨⟨1, rfl, by omega, HR2, HT2⟩, by simp [intOf]⟩
      · have HBV := Lib.hid (bv_ofNat (v / 65536))
        have HTK := Lib.hid (show (beL 8 v).take (8 - 2) = (beL 8 v).take (8 - 3) ++ [UInt8.ofNat (v / 65536)] from rfl)
        obtain ⟨z, hz⟩ : ∃ z, z = v / 65536 % 256 := ⟨_, rfl⟩
        have hzz : (v : Int) / 65536 % 256 = (z : Int) := by omega
        rw [← hz] at HBV
        obtain ⟨X, hX⟩ : ∃ X, X = (xs ++ (beL 8 v).take (8 - 3)).map bv := ⟨_, rfl⟩
        rw [← hX] at HR HLX
        have HXX := Lib.hid (show X ++ [Value.int .u8 (z : Int)] = (xs ++ (beL 8 v).take (8 - 2)).map bv by rw [HTK.out, ← List.append_assoc, List.map_append (l₁ := xs ++ _), ← hX, show [UInt8.ofNat (v / 65536)].map bv = [Value.int .u8 (z : Int)] by rw [List.map_cons, HBV.out]; rfl])
        clear hz h0 hX
        go_wp2_with (at_builtin; go_must (refine wpList_append_row (F := fun b => F b ∨ w.heap.size ≤ b) (news := [Value.int .u8 (z : Int)]) rfl (.tmp 13) (.tmp 19) rfl i8 (.int .u8 0) 1 Tryz.underlying108 hi8 hz0 hz1 hz2 rfl rfl (HR.out.keep fun b hb _ => Below.heap_alloc _ _ b hb) ⟨wr.heap.size, 0, none⟩ 1 1 rfl rfl (World.news_of_block (MapKept.heap_alloc _ _).1) (by intro u hu; simp at hu; subst hu; rfl) (by decide) (by have := HLX.out; unfold maxLen; omega) (by have := HLX.out; omega) ?_))
        intro v2 w3 hrow2 htu2 hcell2
        have HR2 := Lib.hid (show Row 5 w3 v2 ((xs ++ (beL 8 v).take (8 - 2)).map bv) (fun b => F b ∨ w.heap.size ≤ b) from by
          rw [← HXX.out]
          exact hrow2.mono fun b _ h => h.elim id (fun h => .inr (by have := HT.out.size; (try simp at h); omega)))
        have HT2 := Lib.hid (HT.out.trans' (Turn.trans (((Turn.refl (fun b => F b ∨ w.heap.size ≤ b) wr).alloc _)) htu2) (fun i hi => hi))
        clear hrow2 htu2 hcell2
        go_wp2
        exact ⟨⟨2, rfl, by omega, HR2, HT2⟩, by simp [intOf]⟩
      · have HBV := Lib.hid (bv_ofNat (v / 16777216))
        have HTK := Lib.hid (show (beL 8 v).take (8 - 3) = (beL 8 v).take (8 - 4) ++ [UInt8.ofNat (v / 16777216)] from rfl)
        obtain ⟨z, hz⟩ : ∃ z, z = v / 16777216 % 256 := ⟨_, rfl⟩
        have hzz : (v : Int) / 16777216 % 256 = (z : Int) := by omega
        rw [← hz] at HBV
        obtain ⟨X, hX⟩ : ∃ X, X = (xs ++ (beL 8 v).take (8 - 4)).map bv := ⟨_, rfl⟩
        rw [← hX] at HR HLX
        have HXX := Lib.hid (show X ++ [Value.int .u8 (z : Int)] = (xs ++ (beL 8 v).take (8 - 3)).map bv by rw [HTK.out, ← List.append_assoc, List.map_append (l₁ := xs ++ _), ← hX, show [UInt8.ofNat (v / 16777216)].map bv = [Value.int .u8 (z : Int)] by rw [List.map_cons, HBV.out]; rfl])
        clear hz h0 hX
        go_wp2_with (at_builtin; go_must (refine wpList_append_row (F := fun b => F b ∨ w.heap.size ≤ b) (news := [Value.int .u8 (z : Int)]) rfl (.tmp 13) (.tmp 19) rfl i8 (.int .u8 0) 1 Tryz.underlying108 hi8 hz0 hz1 hz2 rfl rfl (HR.out.keep fun b hb _ => Below.heap_alloc _ _ b hb) ⟨wr.heap.size, 0, none⟩ 1 1 rfl rfl (World.news_of_block (MapKept.heap_alloc _ _).1) (by intro u hu; simp at hu; subst hu; rfl) (by decide) (by have := HLX.out; unfold maxLen; omega) (by have := HLX.out; omega) ?_))
        intro v2 w3 hrow2 htu2 hcell2
        have HR2 := Lib.hid (show Row 5 w3 v2 ((xs ++ (beL 8 v).take (8 - 3)).map bv) (fun b => F b ∨ w.heap.size ≤ b) from by
          rw [← HXX.out]
          exact hrow2.mono fun b _ h => h.elim id (fun h => .inr (by have := HT.out.size; (try simp at h); omega)))
        have HT2 := Lib.hid (HT.out.trans' (Turn.trans (((Turn.refl (fun b => F b ∨ w.heap.size ≤ b) wr).alloc _)) htu2) (fun i hi => hi))
        clear hrow2 htu2 hcell2
        go_wp2
        exact ⟨⟨3, rfl, by omega, HR2, HT2⟩, by simp [intOf]⟩
      · have HBV := Lib.hid (bv_ofNat (v / 4294967296))
        have HTK := Lib.hid (show (beL 8 v).take (8 - 4) = (beL 8 v).take (8 - 5) ++ [UInt8.ofNat (v / 4294967296)] from rfl)
        obtain ⟨z, hz⟩ : ∃ z, z = v / 4294967296 % 256 := ⟨_, rfl⟩
        have hzz : (v : Int) / 4294967296 % 256 = (z : Int) := by omega
        rw [← hz] at HBV
        obtain ⟨X, hX⟩ : ∃ X, X = (xs ++ (beL 8 v).take (8 - 5)).map bv := ⟨_, rfl⟩
        rw [← hX] at HR HLX
        have HXX := Lib.hid (show X ++ [Value.int .u8 (z : Int)] = (xs ++ (beL 8 v).take (8 - 4)).map bv by rw [HTK.out, ← List.append_assoc, List.map_append (l₁ := xs ++ _), ← hX, show [UInt8.ofNat (v / 4294967296)].map bv = [Value.int .u8 (z : Int)] by rw [List.map_cons, HBV.out]; rfl])
        clear hz h0 hX
        go_wp2_with (at_builtin; go_must (refine wpList_append_row (F := fun b => F b ∨ w.heap.size ≤ b) (news := [Value.int .u8 (z : Int)]) rfl (.tmp 13) (.tmp 19) rfl i8 (.int .u8 0) 1 Tryz.underlying108 hi8 hz0 hz1 hz2 rfl rfl (HR.out.keep fun b hb _ => Below.heap_alloc _ _ b hb) ⟨wr.heap.size, 0, none⟩ 1 1 rfl rfl (World.news_of_block (MapKept.heap_alloc _ _).1) (by intro u hu; simp at hu; subst hu; rfl) (by decide) (by have := HLX.out; unfold maxLen; omega) (by have := HLX.out; omega) ?_))
        intro v2 w3 hrow2 htu2 hcell2
        have HR2 := Lib.hid (show Row 5 w3 v2 ((xs ++ (beL 8 v).take (8 - 4)).map bv) (fun b => F b ∨ w.heap.size ≤ b) from by
          rw [← HXX.out]
          exact hrow2.mono fun b _ h => h.elim id (fun h => .inr (by have := HT.out.size; (try simp at h); omega)))
        have HT2 := Lib.hid (HT.out.trans' (Turn.trans (((Turn.refl (fun b => F b ∨ w.heap.size ≤ b) wr).alloc _)) htu2) (fun i hi => hi))
        clear hrow2 htu2 hcell2
        go_wp2
        exact ⟨⟨4, rfl, by omega, HR2, HT2⟩, by simp [intOf]⟩
      · have HBV := Lib.hid (bv_ofNat (v / 1099511627776))
        have HTK := Lib.hid (show (beL 8 v).take (8 - 5) = (beL 8 v).take (8 - 6) ++ [UInt8.ofNat (v / 1099511627776)] from rfl)
        obtain ⟨z, hz⟩ : ∃ z, z = v / 1099511627776 % 256 := ⟨_, rfl⟩
        have hzz : (v : Int) / 1099511627776 % 256 = (z : Int) := by omega
        rw [← hz] at HBV
        obtain ⟨X, hX⟩ : ∃ X, X = (xs ++ (beL 8 v).take (8 - 6)).map bv := ⟨_, rfl⟩
        rw [← hX] at HR HLX
        have HXX := Lib.hid (show X ++ [Value.int .u8 (z : Int)] = (xs ++ (beL 8 v).take (8 - 5)).map bv by rw [HTK.out, ← List.append_assoc, List.map_append (l₁ := xs ++ _), ← hX, show [UInt8.ofNat (v / 1099511627776)].map bv = [Value.int .u8 (z : Int)] by rw [List.map_cons, HBV.out]; rfl])
        clear hz h0 hX
        go_wp2_with (at_builtin; go_must (refine wpList_append_row (F := fun b => F b ∨ w.heap.size ≤ b) (news := [Value.int .u8 (z : Int)]) rfl (.tmp 13) (.tmp 19) rfl i8 (.int .u8 0) 1 Tryz.underlying108 hi8 hz0 hz1 hz2 rfl rfl (HR.out.keep fun b hb _ => Below.heap_alloc _ _ b hb) ⟨wr.heap.size, 0, none⟩ 1 1 rfl rfl (World.news_of_block (MapKept.heap_alloc _ _).1) (by intro u hu; simp at hu; subst hu; rfl) (by decide) (by have := HLX.out; unfold maxLen; omega) (by have := HLX.out; omega) ?_))
        intro v2 w3 hrow2 htu2 hcell2
        have HR2 := Lib.hid (show Row 5 w3 v2 ((xs ++ (beL 8 v).take (8 - 5)).map bv) (fun b => F b ∨ w.heap.size ≤ b) from by
          rw [← HXX.out]
          exact hrow2.mono fun b _ h => h.elim id (fun h => .inr (by have := HT.out.size; (try simp at h); omega)))
        have HT2 := Lib.hid (HT.out.trans' (Turn.trans (((Turn.refl (fun b => F b ∨ w.heap.size ≤ b) wr).alloc _)) htu2) (fun i hi => hi))
        clear hrow2 htu2 hcell2
        go_wp2
        exact ⟨⟨5, rfl, by omega, HR2, HT2⟩, by simp [intOf]⟩
      · have HBV := Lib.hid (bv_ofNat (v / 281474976710656))
        have HTK := Lib.hid (show (beL 8 v).take (8 - 6) = (beL 8 v).take (8 - 7) ++ [UInt8.ofNat (v / 281474976710656)] from rfl)
        obtain ⟨z, hz⟩ : ∃ z, z = v / 281474976710656 % 256 := ⟨_, rfl⟩
        have hzz : (v : Int) / 281474976710656 % 256 = (z : Int) := by omega
        rw [← hz] at HBV
        obtain ⟨X, hX⟩ : ∃ X, X = (xs ++ (beL 8 v).take (8 - 7)).map bv := ⟨_, rfl⟩
        rw [← hX] at HR HLX
        have HXX := Lib.hid (show X ++ [Value.int .u8 (z : Int)] = (xs ++ (beL 8 v).take (8 - 6)).map bv by rw [HTK.out, ← List.append_assoc, List.map_append (l₁ := xs ++ _), ← hX, show [UInt8.ofNat (v / 281474976710656)].map bv = [Value.int .u8 (z : Int)] by rw [List.map_cons, HBV.out]; rfl])
        clear hz h0 hX
        go_wp2_with (at_builtin; go_must (refine wpList_append_row (F := fun b => F b ∨ w.heap.size ≤ b) (news := [Value.int .u8 (z : Int)]) rfl (.tmp 13) (.tmp 19) rfl i8 (.int .u8 0) 1 Tryz.underlying108 hi8 hz0 hz1 hz2 rfl rfl (HR.out.keep fun b hb _ => Below.heap_alloc _ _ b hb) ⟨wr.heap.size, 0, none⟩ 1 1 rfl rfl (World.news_of_block (MapKept.heap_alloc _ _).1) (by intro u hu; simp at hu; subst hu; rfl) (by decide) (by have := HLX.out; unfold maxLen; omega) (by have := HLX.out; omega) ?_))
        intro v2 w3 hrow2 htu2 hcell2
        have HR2 := Lib.hid (show Row 5 w3 v2 ((xs ++ (beL 8 v).take (8 - 6)).map bv) (fun b => F b ∨ w.heap.size ≤ b) from by
          rw [← HXX.out]
          exact hrow2.mono fun b _ h => h.elim id (fun h => .inr (by have := HT.out.size; (try simp at h); omega)))
        have HT2 := Lib.hid (HT.out.trans' (Turn.trans (((Turn.refl (fun b => F b ∨ w.heap.size ≤ b) wr).alloc _)) htu2) (fun i hi => hi))
        clear hrow2 htu2 hcell2
        go_wp2
        exact ⟨⟨6, rfl, by omega, HR2, HT2⟩, by simp [intOf]⟩
      · have HBV := Lib.hid (bv_ofNat (v / 72057594037927936))
        have HTK := Lib.hid (show (beL 8 v).take (8 - 7) = (beL 8 v).take (8 - 8) ++ [UInt8.ofNat (v / 72057594037927936)] from rfl)
        obtain ⟨z, hz⟩ : ∃ z, z = v / 72057594037927936 % 256 := ⟨_, rfl⟩
        have hzz : (v : Int) / 72057594037927936 % 256 = (z : Int) := by omega
        rw [← hz] at HBV
        obtain ⟨X, hX⟩ : ∃ X, X = (xs ++ (beL 8 v).take (8 - 8)).map bv := ⟨_, rfl⟩
        rw [← hX] at HR HLX
        have HXX := Lib.hid (show X ++ [Value.int .u8 (z : Int)] = (xs ++ (beL 8 v).take (8 - 7)).map bv by rw [HTK.out, ← List.append_assoc, List.map_append (l₁ := xs ++ _), ← hX, show [UInt8.ofNat (v / 72057594037927936)].map bv = [Value.int .u8 (z : Int)] by rw [List.map_cons, HBV.out]; rfl])
        clear hz h0 hX
        go_wp2_with (at_builtin; go_must (refine wpList_append_row (F := fun b => F b ∨ w.heap.size ≤ b) (news := [Value.int .u8 (z : Int)]) rfl (.tmp 13) (.tmp 19) rfl i8 (.int .u8 0) 1 Tryz.underlying108 hi8 hz0 hz1 hz2 rfl rfl (HR.out.keep fun b hb _ => Below.heap_alloc _ _ b hb) ⟨wr.heap.size, 0, none⟩ 1 1 rfl rfl (World.news_of_block (MapKept.heap_alloc _ _).1) (by intro u hu; simp at hu; subst hu; rfl) (by decide) (by have := HLX.out; unfold maxLen; omega) (by have := HLX.out; omega) ?_))
        intro v2 w3 hrow2 htu2 hcell2
        have HR2 := Lib.hid (show Row 5 w3 v2 ((xs ++ (beL 8 v).take (8 - 7)).map bv) (fun b => F b ∨ w.heap.size ≤ b) from by
          rw [← HXX.out]
          exact hrow2.mono fun b _ h => h.elim id (fun h => .inr (by have := HT.out.size; (try simp at h); omega)))
        have HT2 := Lib.hid (HT.out.trans' (Turn.trans (((Turn.refl (fun b => F b ∨ w.heap.size ≤ b) wr).alloc _)) htu2) (fun i hi => hi))
        clear hrow2 htu2 hcell2
        go_wp2
        exact ⟨⟨7, rfl, by omega, HR2, HT2⟩, by simp [intOf]⟩
set_option maxHeartbeats 4000000 in
set_option maxRecDepth 100000 in
theorem put4_calls (v : Nat) (hv : v < 4294967296) (xs : List UInt8) (hx : xs.length ≤ 1000) (bs : Value) (F : Nat → Prop) (w : World) (hr : Row 5 w bs (xs.map bv) F) :
    Calls Tryz.prog 378 #[bs, .int .u64 v, .int .i64 4] w fun r w' => ∃ v', r = .returned v' ∧ Row 5 w' v' ((xs ++ beL 4 v).map bv) (fun b => F b ∨ w.heap.size ≤ b) ∧ Turn F w w' := by
  obtain ⟨i8, hi8, hz0, hz1, hz2⟩ := info_parts infoU8
  have HV := Lib.hid hv
  have HX := Lib.hid hx
  have HR0 := Lib.hid (hr.mono (G := fun b => F b ∨ w.heap.size ≤ b) fun b _ h => .inl h)
  clear hv hx hr
  go_enter Tryz.func378, Tryz.ntmps378
  go_wp2
  go_loopw [0, 2] (fun lv kv wr => ∃ r : Nat, kv = .int .i64 ((r : Int) - 1) ∧ r ≤ 4 ∧ Hid (Row 5 wr lv ((xs ++ (beL 4 v).take (4 - r)).map bv) (fun b => F b ∨ w.heap.size ≤ b)) ∧ Hid (Turn F w wr)) (fun _ kv _ => (intOf kv + 1).toNat)
  case atStart => exact ⟨4, rfl, by omega, Lib.hid (by simpa using HR0.out), Lib.hid (Turn.refl _ _)⟩
  case round =>
    clear HR0
    obtain ⟨r, rfl, hr, HR, HT⟩ := hrel
    have HLX := Lib.hid (show ((xs ++ (beL 4 v).take (4 - r)).map bv).length ≤ 1008 by have := HX.out; simp; omega)
    by_cases h0 : r = 0
    · subst h0
      have HRE := Lib.hid (show Row 5 wr _ ((xs ++ beL 4 v).map bv) _ from by have := HR.out; rw [List.take_of_length_le (by rw [beL_len]; omega)] at this; exact this)
      go_wp2
      go_ret
      exact ⟨_, rfl, HRE.out, HT.out⟩
    · obtain rfl | rfl | rfl | rfl : r = 1 ∨ r = 2 ∨ r = 3 ∨ r = 4 := by omega
      · have HBV := Lib.hid (bv_ofNat (v / 1))
        have HTK := Lib.hid (show (beL 4 v).take (4 - 0) = (beL 4 v).take (4 - 1) ++ [UInt8.ofNat (v / 1)] from rfl)
        obtain ⟨z, hz⟩ : ∃ z, z = v / 1 % 256 := ⟨_, rfl⟩
        have hzz : (v : Int) % 256 = (z : Int) := by omega
        rw [← hz] at HBV
        obtain ⟨X, hX⟩ : ∃ X, X = (xs ++ (beL 4 v).take (4 - 1)).map bv := ⟨_, rfl⟩
        rw [← hX] at HR HLX
        have HXX := Lib.hid (show X ++ [Value.int .u8 (z : Int)] = (xs ++ (beL 4 v).take (4 - 0)).map bv by rw [HTK.out, ← List.append_assoc, List.map_append (l₁ := xs ++ _), ← hX, show [UInt8.ofNat (v / 1)].map bv = [Value.int .u8 (z : Int)] by rw [List.map_cons, HBV.out]; rfl])
        clear hz h0 hX
        go_wp2_with (at_builtin; go_must (refine wpList_append_row (F := fun b => F b ∨ w.heap.size ≤ b) (news := [Value.int .u8 (z : Int)]) rfl (.tmp 13) (.tmp 19) rfl i8 (.int .u8 0) 1 Tryz.underlying108 hi8 hz0 hz1 hz2 rfl rfl (HR.out.keep fun b hb _ => Below.heap_alloc _ _ b hb) ⟨wr.heap.size, 0, none⟩ 1 1 rfl rfl (World.news_of_block (MapKept.heap_alloc _ _).1) (by intro u hu; simp at hu; subst hu; rfl) (by decide) (by have := HLX.out; unfold maxLen; omega) (by have := HLX.out; omega) ?_))
        intro v2 w3 hrow2 htu2 hcell2
        have HR2 := Lib.hid (show Row 5 w3 v2 ((xs ++ (beL 4 v).take (4 - 0)).map bv) (fun b => F b ∨ w.heap.size ≤ b) from by
          rw [← HXX.out]
          exact hrow2.mono fun b _ h => h.elim id (fun h => .inr (by have := HT.out.size; (try simp at h); omega)))
        have HT2 := Lib.hid (HT.out.trans' (Turn.trans (((Turn.refl (fun b => F b ∨ w.heap.size ≤ b) wr).alloc _)) htu2) (fun i hi => hi))
        clear hrow2 htu2 hcell2
        go_wp2
        exact ⟨⟨0, rfl, by omega, HR2, HT2⟩, by simp [intOf]⟩
      · have HBV := Lib.hid (bv_ofNat (v / 256))
        have HTK := Lib.hid (show (beL 4 v).take (4 - 1) = (beL 4 v).take (4 - 2) ++ [UInt8.ofNat (v / 256)] from rfl)
        obtain ⟨z, hz⟩ : ∃ z, z = v / 256 % 256 := ⟨_, rfl⟩
        have hzz : (v : Int) / 256 % 256 = (z : Int) := by omega
        rw [← hz] at HBV
        obtain ⟨X, hX⟩ : ∃ X, X = (xs ++ (beL 4 v).take (4 - 2)).map bv := ⟨_, rfl⟩
        rw [← hX] at HR HLX
        have HXX := Lib.hid (show X ++ [Value.int .u8 (z : Int)] = (xs ++ (beL 4 v).take (4 - 1)).map bv by rw [HTK.out, ← List.append_assoc, List.map_append (l₁ := xs ++ _), ← hX, show [UInt8.ofNat (v / 256)].map bv = [Value.int .u8 (z : Int)] by rw [List.map_cons, HBV.out]; rfl])
        clear hz h0 hX
        go_wp2_with (at_builtin; go_must (refine wpList_append_row (F := fun b => F b ∨ w.heap.size ≤ b) (news := [Value.int .u8 (z : Int)]) rfl (.tmp 13) (.tmp 19) rfl i8 (.int .u8 0) 1 Tryz.underlying108 hi8 hz0 hz1 hz2 rfl rfl (HR.out.keep fun b hb _ => Below.heap_alloc _ _ b hb) ⟨wr.heap.size, 0, none⟩ 1 1 rfl rfl (World.news_of_block (MapKept.heap_alloc _ _).1) (by intro u hu; simp at hu; subst hu; rfl) (by decide) (by have := HLX.out; unfold maxLen; omega) (by have := HLX.out; omega) ?_))
        intro v2 w3 hrow2 htu2 hcell2
        have HR2 := Lib.hid (show Row 5 w3 v2 ((xs ++ (beL 4 v).take (4 - 1)).map bv) (fun b => F b ∨ w.heap.size ≤ b) from by
          rw [← HXX.out]
          exact hrow2.mono fun b _ h => h.elim id (fun h => .inr (by have := HT.out.size; (try simp at h); omega)))
        have HT2 := Lib.hid (HT.out.trans' (Turn.trans (((Turn.refl (fun b => F b ∨ w.heap.size ≤ b) wr).alloc _)) htu2) (fun i hi => hi))
        clear hrow2 htu2 hcell2
        go_wp2
        exact ⟨⟨1, rfl, by omega, HR2, HT2⟩, by simp [intOf]⟩
      · have HBV := Lib.hid (bv_ofNat (v / 65536))
        have HTK := Lib.hid (show (beL 4 v).take (4 - 2) = (beL 4 v).take (4 - 3) ++ [UInt8.ofNat (v / 65536)] from rfl)
        obtain ⟨z, hz⟩ : ∃ z, z = v / 65536 % 256 := ⟨_, rfl⟩
        have hzz : (v : Int) / 65536 % 256 = (z : Int) := by omega
        rw [← hz] at HBV
        obtain ⟨X, hX⟩ : ∃ X, X = (xs ++ (beL 4 v).take (4 - 3)).map bv := ⟨_, rfl⟩
        rw [← hX] at HR HLX
        have HXX := Lib.hid (show X ++ [Value.int .u8 (z : Int)] = (xs ++ (beL 4 v).take (4 - 2)).map bv by rw [HTK.out, ← List.append_assoc, List.map_append (l₁ := xs ++ _), ← hX, show [UInt8.ofNat (v / 65536)].map bv = [Value.int .u8 (z : Int)] by rw [List.map_cons, HBV.out]; rfl])
        clear hz h0 hX
        go_wp2_with (at_builtin; go_must (refine wpList_append_row (F := fun b => F b ∨ w.heap.size ≤ b) (news := [Value.int .u8 (z : Int)]) rfl (.tmp 13) (.tmp 19) rfl i8 (.int .u8 0) 1 Tryz.underlying108 hi8 hz0 hz1 hz2 rfl rfl (HR.out.keep fun b hb _ => Below.heap_alloc _ _ b hb) ⟨wr.heap.size, 0, none⟩ 1 1 rfl rfl (World.news_of_block (MapKept.heap_alloc _ _).1) (by intro u hu; simp at hu; subst hu; rfl) (by decide) (by have := HLX.out; unfold maxLen; omega) (by have := HLX.out; omega) ?_))
        intro v2 w3 hrow2 htu2 hcell2
        have HR2 := Lib.hid (show Row 5 w3 v2 ((xs ++ (beL 4 v).take (4 - 2)).map bv) (fun b => F b ∨ w.heap.size ≤ b) from by
          rw [← HXX.out]
          exact hrow2.mono fun b _ h => h.elim id (fun h => .inr (by have := HT.out.size; (try simp at h); omega)))
        have HT2 := Lib.hid (HT.out.trans' (Turn.trans (((Turn.refl (fun b => F b ∨ w.heap.size ≤ b) wr).alloc _)) htu2) (fun i hi => hi))
        clear hrow2 htu2 hcell2
        go_wp2
        exact ⟨⟨2, rfl, by omega, HR2, HT2⟩, by simp [intOf]⟩
      · have HBV := Lib.hid (bv_ofNat (v / 16777216))
        have HTK := Lib.hid (show (beL 4 v).take (4 - 3) = (beL 4 v).take (4 - 4) ++ [UInt8.ofNat (v / 16777216)] from rfl)
        obtain ⟨z, hz⟩ : ∃ z, z = v / 16777216 % 256 := ⟨_, rfl⟩
        have hzz : (v : Int) / 16777216 % 256 = (z : Int) := by omega
        rw [← hz] at HBV
        obtain ⟨X, hX⟩ : ∃ X, X = (xs ++ (beL 4 v).take (4 - 4)).map bv := ⟨_, rfl⟩
        rw [← hX] at HR HLX
        have HXX := Lib.hid (show X ++ [Value.int .u8 (z : Int)] = (xs ++ (beL 4 v).take (4 - 3)).map bv by rw [HTK.out, ← List.append_assoc, List.map_append (l₁ := xs ++ _), ← hX, show [UInt8.ofNat (v / 16777216)].map bv = [Value.int .u8 (z : Int)] by rw [List.map_cons, HBV.out]; rfl])
        clear hz h0 hX
        go_wp2_with (at_builtin; go_must (refine wpList_append_row (F := fun b => F b ∨ w.heap.size ≤ b) (news := [Value.int .u8 (z : Int)]) rfl (.tmp 13) (.tmp 19) rfl i8 (.int .u8 0) 1 Tryz.underlying108 hi8 hz0 hz1 hz2 rfl rfl (HR.out.keep fun b hb _ => Below.heap_alloc _ _ b hb) ⟨wr.heap.size, 0, none⟩ 1 1 rfl rfl (World.news_of_block (MapKept.heap_alloc _ _).1) (by intro u hu; simp at hu; subst hu; rfl) (by decide) (by have := HLX.out; unfold maxLen; omega) (by have := HLX.out; omega) ?_))
        intro v2 w3 hrow2 htu2 hcell2
        have HR2 := Lib.hid (show Row 5 w3 v2 ((xs ++ (beL 4 v).take (4 - 3)).map bv) (fun b => F b ∨ w.heap.size ≤ b) from by
          rw [← HXX.out]
          exact hrow2.mono fun b _ h => h.elim id (fun h => .inr (by have := HT.out.size; (try simp at h); omega)))
        have HT2 := Lib.hid (HT.out.trans' (Turn.trans (((Turn.refl (fun b => F b ∨ w.heap.size ≤ b) wr).alloc _)) htu2) (fun i hi => hi))
        clear hrow2 htu2 hcell2
        go_wp2
        exact ⟨⟨3, rfl, by omega, HR2, HT2⟩, by simp [intOf]⟩
end Go.Proofs.YtblkehdpenfhjaaGreatDoor
/-
  Package sha: words.
-/
set_option linter.unusedVariables false
set_option linter.unusedSimpArgs false
namespace Go.Proofs.YtblkehdpenfhjaaGreatDoor
open Go.RowKit

def uv (n : Nat) : Value := .int .u32 (n : Int)
/-- an array of 64 numbers, of which the first are L -/
def arr64 (L : List Nat) : Array Value := ((L ++ List.replicate (64 - L.length) 0).map uv).toArray
theorem arr64_size (L : List Nat) (h : L.length ≤ 64) : (arr64 L).size = 64 := by simp [arr64]; omega
theorem arr64_one (L : List Nat) : (arr64 L).all (·.oneCell') = true := by
  have h : ∀ v ∈ (L ++ List.replicate (64 - L.length) 0).map uv, v.oneCell' = true := fun v hv => by obtain ⟨n, _, rfl⟩ := List.mem_map.1 hv; rfl
  unfold arr64
  rw [List.all_toArray]
  exact List.all_eq_true.2 h
theorem arr64_at (L : List Nat) (i : Nat) (h : i < L.length) (h2 : i < (arr64 L).size) : (arr64 L)[i] = uv L[i] := by
  simp only [arr64, List.getElem_toArray, List.getElem_map]
  rw [List.getElem_append_left h]
theorem arr64_end (L : List Nat) (h : L.length < 64) (h2 : L.length < (arr64 L).size) : (arr64 L)[L.length] = uv 0 := by
  simp only [arr64, List.getElem_toArray, List.getElem_map]
  rw [List.getElem_append_right (Nat.le_refl _), List.getElem_replicate]
theorem arr64_put (L : List Nat) (x : Nat) (h : L.length < 64) : (arr64 L).setIfInBounds L.length (uv x) = arr64 (L ++ [x]) := by
  unfold arr64
  apply Array.ext'
  rw [Array.toList_setIfInBounds]
  simp only [List.map_append]
  have e : 64 - L.length = (64 - (L ++ [x]).length) + 1 := by simp; omega
  rw [e, List.replicate_succ, List.map_cons, List.set_append_right _ _ (by simp), List.append_assoc]
  simp
def w16s (b : List UInt8) : List Nat := (List.range 16).map fun t => numL ((b.drop (4 * t)).take 4)
def s0F (x : Nat) : Nat := (rotr x 7 ^^^ rotr x 18) ^^^ (x / 8)
def s1F (y : Nat) : Nat := (rotr y 17 ^^^ rotr y 19) ^^^ (y / 1024)
def wnext (L : List Nat) : Nat := (((s1F (L.getD (L.length - 2) 0) + L.getD (L.length - 7) 0) % 4294967296 + s0F (L.getD (L.length - 15) 0)) % 4294967296 + L.getD (L.length - 16) 0) % 4294967296
def wl (b : List UInt8) : Nat → List Nat
  | 0 => w16s b
  | j + 1 => wl b j ++ [wnext (wl b j)]
theorem wl_len (b : List UInt8) : ∀ j, (wl b j).length = 16 + j
  | 0 => by simp [wl, w16s]
  | j + 1 => by rw [wl, List.length_append, wl_len b j]; rfl
theorem xor_lt32 {a b : Nat} (ha : a < 4294967296) (hb : b < 4294967296) : a ^^^ b < 4294967296 := Nat.xor_lt_two_pow (n := 32) ha hb
theorem s0F_lt {x : Nat} (h : x < 4294967296) : s0F x < 4294967296 := xor_lt32 (xor_lt32 (rotr_lt 7 h) (rotr_lt 18 h)) (by omega)
theorem s1F_lt {x : Nat} (h : x < 4294967296) : s1F x < 4294967296 := xor_lt32 (xor_lt32 (rotr_lt 17 h) (rotr_lt 19 h)) (by omega)
theorem numL_lt (l : List UInt8) : numL l < 4294967296 := by
  rw [← List.take_length (l := l)]
  generalize l.length = n
  induction n with
  | zero => simp [numL]
  | succ n ih =>
    rcases Nat.lt_or_ge n l.length with h | h
    · rw [List.take_succ_eq_append_getElem h, numL_snoc]
      have := (l[n]).toNat_lt
      exact or_lt32 (Nat.mod_lt _ (by decide)) (by omega)
    · rw [List.take_of_length_le (by omega)] at ih ⊢; exact ih
theorem wl_lt (b : List UInt8) : ∀ j i (h : i < (wl b j).length), (wl b j)[i] < 4294967296
  | 0, i, h => by simp only [wl, w16s, List.getElem_map]; exact numL_lt _
  | j + 1, i, h => by
    have hl := wl_len b j
    simp only [wl] at h ⊢
    rw [List.getElem_append]
    split
    · exact wl_lt b j i _
    · simp only [List.getElem_singleton]
      exact Nat.mod_lt _ (by decide)
theorem zero64 (w : World) : (zeroValue 378).run Tryz.prog w = .ok (.agg (arr64 [])) w := by kernel_rfl
theorem w16s_take (b : List UInt8) (t : Nat) (h : t < 16) : (w16s b).take (t + 1) = (w16s b).take t ++ [numL ((b.drop (4 * t)).take 4)] := by
  rw [List.take_succ_eq_append_getElem (by simp [w16s]; exact h)]
  simp [w16s]
theorem ext4 (s : ByteArray) (t : Nat) : (s.extract (4 * t) (4 * t + 4)).data.toList = (s.data.toList.drop (4 * t)).take 4 := by
  rw [ByteArray.data_extract, Array.toList_extract, List.extract_eq_take_drop, Nat.add_sub_cancel_left]
set_option maxHeartbeats 8000000 in
set_option maxRecDepth 100000 in
theorem words_calls (s : ByteArray) (hs : s.size = 64) (w : World) : Calls Tryz.prog 376 #[.string s] w fun r w' => r = .returned (.agg (arr64 (wl s.data.toList 48))) ∧ Below w.heap.size w w' := by
  have HS := Lib.hid hs
  have hz := zero64
  have hb0 : Below w.heap.size w ((w.alloc (.cells (arr64 []) 378)).alloc (.cells (arr64 []) 378)) := ((Below.refl _ _).alloc (Nat.le_refl _) _).alloc (by simp) _
  have hB1 : ((w.alloc (.cells (arr64 []) 378)).alloc (.cells (arr64 []) 378)).heap[w.heap.size]? = some (.cells (arr64 []) 378 (0, 0)) := by
    rw [Below.heap_alloc _ _ _ (by simp)]; exact (MapKept.heap_alloc w _).1
  have hB2 : ((w.alloc (.cells (arr64 []) 378)).alloc (.cells (arr64 []) 378)).heap[w.heap.size + 1]? = some (.cells (arr64 []) 378 (0, 0)) := by have := (MapKept.heap_alloc (w.alloc (.cells (arr64 []) 378)) (.cells (arr64 []) 378)).1; simpa using this
  have HB1 := Lib.hid hB1
  have HB2 := Lib.hid hB2
  have HB0 := Lib.hid hb0
  clear hB1 hB2 hb0 hs
  go_enter Tryz.func376, Tryz.ntmps376
  go_wp2
  clear hz
  go_loopw [10] (fun v wr => ∃ k : Nat, k ≤ 16 ∧ v = .int .i64 k ∧ Hid (wr.heap[w.heap.size]? = some (.cells (arr64 []) 378 (0, 0))) ∧ Hid (wr.heap[w.heap.size + 1]? = some (.cells (arr64 ((w16s s.data.toList).take k)) 378 (0, 0))) ∧ Hid (Below w.heap.size w wr)) (fun v _ => 16 - (intOf v).toNat)
  case atStart => exact ⟨0, Nat.zero_le _, rfl, HB1, HB2, HB0⟩
  case round =>
    clear HB1 HB2 HB0
    obtain ⟨k, hk, rfl, HB1, HB2, HB0⟩ := hrel
    have hs64 : s.size = 64 := HS.out
    by_cases hlt : k < 16
    · have hl : ((w16s s.data.toList).take k).length = k := by simp [w16s]; omega
      have hcell := cell_of_block (off := k) HB2.out (by rw [arr64_size _ (by rw [hl]; omega)]; omega)
      have hfr := frozen_of_block (off := k) HB2.out
      obtain ⟨u0, hu0⟩ : ∃ u, u = (arr64 ((w16s s.data.toList).take k))[k]'(by rw [arr64_size _ (by rw [hl]; omega)]; omega) := ⟨_, rfl⟩
      rw [← hu0] at hcell
      have HPUT := Lib.hid (show (arr64 ((w16s s.data.toList).take k)).setIfInBounds k (uv (numL ((s.data.toList.drop (4 * k)).take 4))) = arr64 ((w16s s.data.toList).take (k + 1)) by
        rw [w16s_take _ _ hlt, ← arr64_put _ _ (by rw [hl]; omega), hl])
      have HE4 := Lib.hid (ext4 s k)
      clear hu0 hl
      go_wp2_with fail
      refine (number_sha_calls (s.extract (4 * k) (4 * k + 4)) (by rw [ByteArray.size_extract]; omega) wr).mono ?_
      rintro r wx ⟨rfl, hnlt, rfl⟩
      rw [HE4.out]
      rw [HE4.out] at hnlt
      obtain ⟨x, hx⟩ : ∃ x, x = numL ((s.data.toList.drop (4 * k)).take 4) := ⟨_, rfl⟩
      rw [← hx] at HPUT ⊢
      clear hx hnlt
      go_wp2
      exact ⟨⟨k + 1, by omega, by go_num, Lib.hid ((block_other (by omega) _).trans HB1.out), Lib.hid (by rw [← HPUT.out]; exact block_setCell HB2.out _), Lib.hid (HB0.out.setCell (by simp) _)⟩, by simp [intOf]; omega⟩
    · have HB2' := Lib.hid (show wr.heap[w.heap.size + 1]? = some (.cells (arr64 (wl s.data.toList 0)) 378 (0, 0)) by have := HB2.out; rwa [List.take_of_length_le (by simp [w16s]; omega)] at this)
      have k16 : decide ((k : Int) < 16) = false := decide_eq_false (by omega)
      clear HB2 hk hlt
      obtain ⟨g, hg⟩ : ∃ g, g = w.heap.size + 1 := ⟨_, rfl⟩
      have HG := Lib.hid hg
      rw [← hg] at HB2' ⊢
      have hgw : w.heap.size ≠ g := by omega
      clear hg
      go_wp2
      go_loopw [5] (fun v wr => ∃ (j t : Nat), j ≤ 48 ∧ v = .int .i64 (t : Int) ∧ Hid (t = 16 + j) ∧ Hid (wr.heap[w.heap.size]? = some (.cells (arr64 []) 378 (0, 0))) ∧ Hid (wr.heap[g]? = some (.cells (arr64 (wl s.data.toList j)) 378 (0, 0))) ∧ Hid (Below w.heap.size w wr)) (fun v _ => 64 - (intOf v).toNat)
      case atStart => exact ⟨0, 16, Nat.zero_le _, rfl, Lib.hid rfl, HB1, HB2', HB0⟩
      case round =>
        clear HB1 HB2' HB0
        obtain ⟨j, t, hj, rfl, HTJ, HB1, HB2, HB0⟩ := hrel
        have ht := HTJ.out
        by_cases hlt : j < 48
        · obtain ⟨L, hL⟩ : ∃ L, L = wl s.data.toList j := ⟨_, rfl⟩
          have hll : L.length = t := by rw [hL, wl_len, ht]
          have HLT := Lib.hid (show ∀ i (h : i < L.length), L[i] < 4294967296 from by rw [hL]; exact fun i h => wl_lt s.data.toList j i h)
          have HN := Lib.hid (show wl s.data.toList (j + 1) = L ++ [wnext L] by rw [hL]; rfl)
          rw [← hL] at HB2
          clear hL
          have hat : ∀ i (h : i < t), wr.cell? ⟨g, i, none⟩ = some (.int .u32 (L[i]'(by omega) : Int)) := fun i h => by
            rw [cell_of_block (off := i) HB2.out (by rw [arr64_size _ (by omega)]; omega), arr64_at L i (by omega) (by rw [arr64_size _ (by omega)]; omega)]
            rfl
          have c15 := hat (t - 15) (by omega)
          have c2 := hat (t - 2) (by omega)
          have c7 := hat (t - 7) (by omega)
          have c16 := hat (t - 16) (by omega)
          have ct : wr.cell? ⟨g, t, none⟩ = some (.int .u32 0) := by
            rw [cell_of_block (off := t) HB2.out (by rw [arr64_size _ (by omega)]; omega)]
            have := arr64_end L (by omega) (by rw [arr64_size _ (by omega)]; omega)
            simp only [hll] at this
            rw [this]; rfl
          have cf : wr.frozen? ⟨g, t, none⟩ = false := frozen_of_block HB2.out
          have hx32 := HLT.out (t - 15) (by omega)
          have hy32 := HLT.out (t - 2) (by omega)
          have h732 := HLT.out (t - 7) (by omega)
          have h1632 := HLT.out (t - 16) (by omega)
          obtain ⟨x, hx⟩ : ∃ x, x = L[t - 15]'(by omega) := ⟨_, rfl⟩
          obtain ⟨y, hy⟩ : ∃ y, y = L[t - 2]'(by omega) := ⟨_, rfl⟩
          obtain ⟨w7, h7⟩ : ∃ w7, w7 = L[t - 7]'(by omega) := ⟨_, rfl⟩
          obtain ⟨w16, h16⟩ : ∃ w16, w16 = L[t - 16]'(by omega) := ⟨_, rfl⟩
          rw [← hx] at c15 hx32
          rw [← hy] at c2 hy32
          rw [← h7] at c7 h732
          rw [← h16] at c16 h1632
          have HW := Lib.hid (show wnext L = (((s1F y + w7) % 4294967296 + s0F x) % 4294967296 + w16) % 4294967296 by
            have hg : ∀ i (h : i < L.length), L.getD i 0 = L[i] := fun i h => by simp [List.getD, h]
            unfold wnext
            rw [hll, hg (t - 2) (by omega), hg (t - 7) (by omega), hg (t - 15) (by omega), hg (t - 16) (by omega), ← hx, ← hy, ← h7, ← h16])
          have HPUT := Lib.hid (show (arr64 L).setIfInBounds t (uv (wnext L)) = arr64 (wl s.data.toList (j + 1)) by rw [HN.out, ← arr64_put _ _ (by omega), hll])
          have HT := Lib.hid ht
          obtain ⟨a15, ha15⟩ : ∃ a, a = t - 15 := ⟨_, rfl⟩
          obtain ⟨a2, ha2⟩ : ∃ a, a = t - 2 := ⟨_, rfl⟩
          obtain ⟨a7, ha7⟩ : ∃ a, a = t - 7 := ⟨_, rfl⟩
          obtain ⟨a16, ha16⟩ : ∃ a, a = t - 16 := ⟨_, rfl⟩
          rw [← ha15] at c15
          rw [← ha2] at c2
          rw [← ha7] at c7
          rw [← ha16] at c16
          have e15 : (t : Int) - 15 = (a15 : Int) := by omega
          have e2 : (t : Int) - 2 = (a2 : Int) := by omega
          have e7 : (t : Int) - 7 = (a7 : Int) := by omega
          have e16 : (t : Int) - 16 = (a16 : Int) := by omega
          have l15 : a15 < 64 := by omega
          have wr7 : IntKind.i64.wrap (a7 : Int) = (a7 : Int) := by rw [IntKind.wrap_i64]; omega
          have li7 : (a7 : Int) < 64 := by omega
          have li16 : (a16 : Int) < 64 := by omega
          have lit : (t : Int) < 64 := by omega
          have wr16 : IntKind.i64.wrap (a16 : Int) = (a16 : Int) := by rw [IntKind.wrap_i64]; omega
          have l2 : a2 < 64 := by omega
          have l7 : a7 < 64 := by omega
          have l16 : a16 < 64 := by omega
          have ht64 : t < 64 := by omega
          have ht16 : 16 ≤ t := by omega
          clear hat hx hy h7 h16 hll ht ha15 ha2 ha7 ha16
          go_wp2
          go_quiet (fail)
          obtain ⟨w2, hw2⟩ : ∃ w2, w2 = wr.drewN nq := ⟨_, rfl⟩
          have HB1' := Lib.hid (show w2.heap[w.heap.size]? = some (.cells (arr64 []) 378 (0, 0)) by subst hw2; exact HB1.out)
          have HB2' := Lib.hid (show w2.heap[g]? = some (.cells (arr64 L) 378 (0, 0)) by subst hw2; exact HB2.out)
          have HB0' := Lib.hid (show Below w.heap.size w w2 by rw [hw2]; exact ⟨HB0.out.os, HB0.out.tape, HB0.out.output, HB0.out.size, HB0.out.block⟩)
          have c7' : w2.cell? ⟨g, a7, none⟩ = some (.int .u32 (w7 : Int)) := by subst hw2; exact c7
          have c16' : w2.cell? ⟨g, a16, none⟩ = some (.int .u32 (w16 : Int)) := by subst hw2; exact c16
          have ct' : w2.cell? ⟨g, t, none⟩ = some (.int .u32 0) := by subst hw2; exact ct
          have cf' : w2.frozen? ⟨g, t, none⟩ = false := by subst hw2; exact cf
          rw [← hw2]
          clear hw2 HB1 HB2 HB0 c7 c16 ct cf c15 c2
          have c7 := c7'
          have c16 := c16'
          have ct := ct'
          have cf := cf'
          clear c7' c16' ct' cf'
          have hr1 := rotr_lt 7 hx32
          have hr2 := rotr_lt 18 hx32
          have T1 := Lib.hid (turned7_calls x hx32 w2)
          have T2 := Lib.hid (turned18_calls x hx32 w2)
          obtain ⟨r1, hr1e⟩ : ∃ r, r = rotr x 7 := ⟨_, rfl⟩
          obtain ⟨r2, hr2e⟩ : ∃ r, r = rotr x 18 := ⟨_, rfl⟩
          rw [← hr1e] at T1 hr1
          rw [← hr2e] at T2 hr2
          have hx1 := u32_xor_nat r1 r2 hr1 hr2
          have hq1 := xor_lt32 hr1 hr2
          obtain ⟨p1, hp1⟩ : ∃ p, p = r1 ^^^ r2 := ⟨_, rfl⟩
          rw [← hp1] at hx1 hq1
          obtain ⟨q1, hq1e⟩ : ∃ q, q = x / 8 := ⟨_, rfl⟩
          have hqq1 : (x : Int) / 8 = (q1 : Int) := by omega
          have hq32 : q1 < 4294967296 := by omega
          have hx2 := u32_xor_nat p1 q1 hq1 hq32
          obtain ⟨s0, hp2⟩ : ∃ p, p = p1 ^^^ q1 := ⟨_, rfl⟩
          rw [← hp2] at hx2
          have Hs0 := Lib.hid (show s0 = s0F x by rw [hp2, hp1, hr1e, hr2e, hq1e]; rfl)
          have hls0 : s0 < 4294967296 := by rw [Hs0.out]; exact s0F_lt hx32
          clear hr1e hr2e hp1 hq1e hp2 hr1 hr2 hq1 hq32
          go_wp2_with fail
          refine T1.out.mono ?_
          rintro r wx ⟨rfl, rfl⟩
          go_wp2_with fail
          refine T2.out.mono ?_
          rintro r wx ⟨rfl, rfl⟩
          clear T1 T2
          have hr1 := rotr_lt 17 hy32
          have hr2 := rotr_lt 19 hy32
          have T1 := Lib.hid (turned17_calls y hy32 w2)
          have T2 := Lib.hid (turned19_calls y hy32 w2)
          obtain ⟨r1, hr1e⟩ : ∃ r, r = rotr y 17 := ⟨_, rfl⟩
          obtain ⟨r2, hr2e⟩ : ∃ r, r = rotr y 19 := ⟨_, rfl⟩
          rw [← hr1e] at T1 hr1
          rw [← hr2e] at T2 hr2
          have hx1 := u32_xor_nat r1 r2 hr1 hr2
          have hq1 := xor_lt32 hr1 hr2
          obtain ⟨p1, hp1⟩ : ∃ p, p = r1 ^^^ r2 := ⟨_, rfl⟩
          rw [← hp1] at hx1 hq1
          obtain ⟨q1, hq1e⟩ : ∃ q, q = y / 1024 := ⟨_, rfl⟩
          have hqq1 : (y : Int) / 1024 = (q1 : Int) := by omega
          have hq32 : q1 < 4294967296 := by omega
          have hx2 := u32_xor_nat p1 q1 hq1 hq32
          obtain ⟨s1, hp2⟩ : ∃ p, p = p1 ^^^ q1 := ⟨_, rfl⟩
          rw [← hp2] at hx2
          have Hs1 := Lib.hid (show s1 = s1F y by rw [hp2, hp1, hr1e, hr2e, hq1e]; rfl)
          have hls1 : s1 < 4294967296 := by rw [Hs1.out]; exact s1F_lt hy32
          clear hr1e hr2e hp1 hq1e hp2 hr1 hr2 hq1 hq32
          go_wp2_with fail
          refine T1.out.mono ?_
          rintro r wx ⟨rfl, rfl⟩
          go_wp2_with fail
          refine T2.out.mono ?_
          rintro r wx ⟨rfl, rfl⟩
          clear T1 T2
          go_wp2
          refine wp_region_ord (fun w' => w'.cell? ⟨g, a7, none⟩ = some (.int .u32 (w7 : Int)) ∧ w'.cell? ⟨g, a16, none⟩ = some (.int .u32 (w16 : Int)) ∧ w'.cell? ⟨g, t, none⟩ = some (.int .u32 0) ∧ w'.frozen? ⟨g, t, none⟩ = false) [(0, false), (1, false), (2, false), (3, false), (4, false), (5, false), (6, false), (7, false), (8, false), (9, false), (10, false), (11, false), (12, false), (13, false), (14, false), (15, true)] (by kernel_rfl) (by kernel_rfl) (fun _ _ d _ _ h => by cases d <;> exact h) ⟨c7, c16, ct, cf⟩ ?_
          iterate 15
            refine heldL ?_ ?_ (by rfl) (by rfl) (fun w' s1 => ?_) ?_ ?_
            rotate_left 2
            focus (obtain ⟨s1, s2, s3, s4⟩ := s1; go_simp; exact rfl)
            focus (go_simp; exact rfl)
          refine actL (by kernel_rfl) (by rfl) (by rfl) (fun K hK => ?_)
          go_wp2_with fail
          refine nilL ?_
          go_wp2
          go_roundw
          case rel =>
            have hval : ((s1 : Int) + (w7 : Int) + (s0 : Int) + (w16 : Int)) % 4294967296 = ((wnext L : Nat) : Int) := by rw [HW.out, ← Hs1.out, ← Hs0.out]; omega
            rw [hval]
            have hbg : w.heap.size ≤ g := by have := HG.out; omega
            refine ⟨j + 1, t + 1, by omega, by go_num, Lib.hid (by have := HTJ.out; omega), Lib.hid ((block_other (Ne.symm hgw) _).trans HB1'.out), Lib.hid ?_, Lib.hid ((HB0'.out.setCell (p := ⟨g, t, none⟩) hbg _).drew)⟩
            rw [← HPUT.out]
            exact block_setCell (off := t) HB2'.out (uv (wnext L))
          case measure => simp [intOf]; omega
        · obtain rfl : j = 48 := by omega
          have hsz : (Tryz.prog.info? 378).map (·.size) = some (arr64 (wl s.data.toList 48)).size := by rw [arr64_size _ (by rw [wl_len]; omega)]; kernel_rfl
          have hsz2 : (arr64 []).size = (arr64 (wl s.data.toList 48)).size := by rw [arr64_size (wl s.data.toList 48) (by rw [wl_len]; omega), arr64_size [] (by decide)]
          have hfin := setRow_heap wr w.heap.size (arr64 []) (arr64 (wl s.data.toList 48)) 378 _ HB1.out
          have hb := below_setRow HB0.out (Nat.le_refl _) (arr64 (wl s.data.toList 48))
          have H2 := Lib.hid hsz
          have H3 := Lib.hid hsz2
          have H4 := Lib.hid hfin
          have H5 := Lib.hid hb
          have ht64 : t = 64 := ht
          subst ht64
          clear hsz hsz2 hfin hb ht
          go_wp2_with (first | (refine wpList_load_row rfl 378 _ rfl _ rfl 378 _ _ _ HB2.out Tryz.underlying378 rfl H2.out ?_) | (refine wpList_store_row rfl 378 _ _ rfl _ _ rfl rfl 378 _ HB1.out H2.out H3.out (arr64_one _) ?_))
          refine bodyPost_ret (results_cell_row rfl _ _ _ _ _ _ _ rfl H4.out Tryz.underlying378 rfl H2.out) rfl ⟨rfl, H5.out⟩
end Go.Proofs.YtblkehdpenfhjaaGreatDoor
