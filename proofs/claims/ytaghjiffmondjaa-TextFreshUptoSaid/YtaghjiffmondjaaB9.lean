/-
  text.B64: what it answers of every text.
-/
import Derived.Test.YtaghjiffmondjaaB8
import Derived.Lib.BufferWrite
import Derived.Lib.SlBuf
set_option linter.unusedSimpArgs false
set_option linter.unusedVariables false
namespace Go.Proofs.Ytaghjiffmondjaa
open Go.RowKit

/-- four signs of up to three bytes -/
def four (n v : Nat) : List UInt8 := (List.range 4).map fun i => if n < i then 61 else dg SIGNS (v / 2 ^ (18 - 6 * i) % 64)
def val3 (a b c : UInt8) : Nat := a.toNat * 65536 + b.toNat * 256 + c.toNat
def b64L : List UInt8 → List UInt8
  | [] => []
  | [a] => four 1 (val3 a 0 0)
  | [a, b] => four 2 (val3 a b 0)
  | a :: b :: c :: l => four 3 (val3 a b c) ++ b64L l
def b64 (s : ByteArray) : ByteArray := ⟨(b64L s.data.toList).toArray⟩
theorem four_len (n v : Nat) : (four n v).length = 4 := by simp [four]
theorem b64L_len : ∀ l : List UInt8, (b64L l).length = (l.length + 2) / 3 * 4
  | [] => rfl
  | [a] => by simp [b64L, four_len]
  | [a, b] => by simp [b64L, four_len]
  | a :: b :: c :: l => by
    simp only [b64L, List.length_append, four_len, b64L_len l, List.length_cons]
    omega

theorem run_copy_str {P : Program} (w : World) (dT sT ty elem : TypeId) (g dLen dCap m : Nat) (s : ByteArray) (cur : Array Value) (t : TypeId)
    (hu : P.underlying dT = some (.slice elem)) (hs : (P.info? elem).map (·.size) = some 1) (hg : w.heap[g]? = some (.cells cur t (0, 0))) (hm : Nat.min s.size dLen = m) (hfit : m ≤ cur.size) (hmx : m ≤ 140737488355328) :
    (Builtin.copy_ #[dT, sT] ty #[.slice (some ⟨g, 0, none⟩) dLen dCap, .string s]).run P w =
      .ok (.int .i64 (m : Int)) (w.setRow g ((s.data.toList.take m).map bv ++ cur.toList.drop m).toArray) := by
  have hms : m ≤ s.size := by rw [← hm]; exact Nat.min_le_left _ _
  have hlen : ((s.data.toList.take m).map bv).length = m := by simp; omega
  have hst := run_storeCells_at P g 0 t ((s.data.toList.take m).map bv) 0 cur w hg (by rw [hlen]; simpa using hfit) (bv_one _)
  rw [hlen] at hst
  simp only [Nat.add_zero, Nat.zero_add, List.take_zero, List.nil_append] at hst
  have htk : List.take m (List.map (fun b : UInt8 => Value.int IntKind.u8 (b.toNat : Int)) s.data.toList) = (s.data.toList.take m).map bv := by
    rw [← List.map_take]; rfl
  cases hq : P.info? elem with
  | none => simp [hq] at hs
  | some i =>
    simp [Builtin.copy_, run_underlying hu, Builtin.lenOf, Builtin.firstCells, sizeOf, typeInfo, hq, hm]
    rw [htk, hst]
    simp [Result.andThen, goInt]

theorem zero56 (w : World) : (zeroValue 56).run Try.prog w = .ok (.agg (zerosN 3)) w := by kernel_rfl

/-- the bytes of a chunk -/
def by3 (l : List UInt8) : UInt8 × UInt8 × UInt8 := (l.getD 0 0, l.getD 1 0, l.getD 2 0)
def fourOf (l : List UInt8) : List UInt8 := four (Nat.min l.length 3) (val3 (by3 l).1 (by3 l).2.1 (by3 l).2.2)
theorem b64L_step (l : List UInt8) (h : l ≠ []) : b64L l = fourOf l ++ b64L (l.drop 3) := by
  match l, h with
  | [a], _ => rfl
  | [a, b], _ => rfl
  | a :: b :: c :: l, _ =>
    simp only [b64L, fourOf, by3, List.length_cons, List.drop_succ_cons, List.drop_zero]
    have : Nat.min (l.length + 1 + 1 + 1) 3 = 3 := Nat.min_eq_right (by omega)
    rw [this]; rfl
theorem three_cells (l : List UInt8) : ((l.take (Nat.min l.length 3)).map bv ++ (zerosN 3).toList.drop (Nat.min l.length 3)).toArray = #[bv (by3 l).1, bv (by3 l).2.1, bv (by3 l).2.2] := by
  match l with
  | [] => rfl
  | [a] => rfl
  | [a, b] => rfl
  | a :: b :: c :: l =>
    have : Nat.min (l.length + 1 + 1 + 1) 3 = 3 := Nat.min_eq_right (by omega)
    simp only [List.length_cons]
    rw [this]; simp [by3, zerosN]

theorem ownsRow_keep2 {w w' : World} {B e size n : Nat} {v : Value} {xs : List Value} (h : w.ownsRow B e size v n xs) (hk : ∀ k, k < w.heap.size → w'.heap[k]? = w.heap[k]?) : w'.ownsRow B e size v n xs :=
  ownsRow_kept' h fun k _ hk' => hk k hk'
theorem or3 (x y z : UInt8) : Go.bits BinOp.or IntKind.i64 (Go.bits BinOp.or IntKind.i64 ((x.toNat : Int) * 65536) ((y.toNat : Int) * 256)) (z.toNat : Int) = ((val3 x y z : Nat) : Int) := by
  have hx := x.toNat_lt
  have hy := y.toNat_lt
  have hz := z.toNat_lt
  have e1 : (x.toNat : Int) * 65536 = ((x.toNat * 65536 : Nat) : Int) := by simp
  have e2 : (y.toNat : Int) * 256 = ((y.toNat * 256 : Nat) : Int) := by simp
  rw [e1, e2, i64_or_nat _ _ (by omega) (by omega)]
  have o1 : x.toNat * 65536 ||| y.toNat * 256 = x.toNat * 65536 + y.toNat * 256 := by
    have := Nat.two_pow_add_eq_or_of_lt (i := 16) (b := y.toNat * 256) (by omega) x.toNat
    rw [Nat.mul_comm x.toNat 65536]; exact this.symm
  rw [o1, i64_or_nat _ _ (by omega) (by omega)]
  have o2 : (x.toNat * 65536 + y.toNat * 256) ||| z.toNat = x.toNat * 65536 + y.toNat * 256 + z.toNat := by
    have := Nat.two_pow_add_eq_or_of_lt (i := 8) (b := z.toNat) (by omega) (x.toNat * 256 + y.toNat)
    have e : x.toNat * 65536 + y.toNat * 256 = 2 ^ 8 * (x.toNat * 256 + y.toNat) := by omega
    rw [e]; exact this.symm
  rw [o2]; rfl
theorem and63 (n : Nat) (hn : n < 9223372036854775808) : Go.bits BinOp.and IntKind.i64 (n : Int) 63 = (n : Int) % 64 := by
  have := i64_and_nat n 63 hn (by omega)
  rw [show ((63 : Nat) : Int) = 63 from rfl] at this
  rw [this, Nat.and_two_pow_sub_one_eq_mod n 6]; simp
theorem btx_SIGNS (n : Nat) (h : n < 64) : Value.int .u8 (btx SIGNS (n : Int)) = bv (dg SIGNS n) := by rw [btx_dg SIGNS n h]; rfl
theorem four_take (n v i : Nat) (hi : i < 4) : (four n v).take (i + 1) = (four n v).take i ++ [if n < i then 61 else dg SIGNS (v / 2 ^ (18 - 6 * i) % 64)] := by
  rw [List.take_succ_eq_append_getElem (by rw [four_len]; exact hi)]
  simp [four]
theorem four_pad (n v i : Nat) (hi : i < 4) (h : n < i) : (four n v).take (i + 1) = (four n v).take i ++ [61] := by rw [four_take n v i hi, if_pos h]
theorem four_sign (n v i : Nat) {c : UInt8} (hi : i < 4) (h : ¬ n < i) (hc : dg SIGNS (v / 2 ^ (18 - 6 * i) % 64) = c) : (four n v).take (i + 1) = (four n v).take i ++ [c] := by rw [four_take n v i hi, if_neg h, hc]
theorem hx_bound (xs : List UInt8) (m q i : Nat) (h : xs.length + 5 ≤ 140737488355328) : (xs ++ (four m q).take i).length + 1 ≤ 140737488355328 := by
  have h2 : ((four m q).take i).length ≤ 4 := by rw [List.length_take, four_len]; omega
  rw [List.length_append]; omega
theorem val3_lt (x y z : UInt8) : val3 x y z < 16777216 := by
  have hx := x.toNat_lt
  have hy := y.toNat_lt
  have hz := z.toNat_lt
  unfold val3; omega
theorem ext_drop (r : ByteArray) (m : Nat) (hm : m = Nat.min r.size 3) : (r.extract m r.size).data.toList = r.data.toList.drop 3 := by
  rw [ByteArray.data_extract, Array.toList_extract, List.extract_eq_take_drop, List.take_of_length_le (by simp)]
  rcases Nat.le_total r.size 3 with h | h
  · have e : m = r.size := by rw [hm]; exact Nat.min_eq_left h
    rw [e, List.drop_eq_nil_of_le (by simp), List.drop_eq_nil_of_le (by simpa using h)]
  · have e : m = 3 := by rw [hm]; exact Nat.min_eq_right h
    rw [e]
theorem min_toNat (n : Nat) : (min 3 (n : Int)).toNat = Nat.min n 3 := by
  have : Nat.min n 3 = min n 3 := rfl
  rw [this]; omega
def strLen : Value → Nat
  | .string r => r.size
  | _ => 0
set_option maxRecDepth 100000 in
theorem b64_calls (s : ByteArray) (hs : s.size ≤ 105553116266000) (w : World) :
    Calls Try.prog 22 #[.string s] w fun e w' => e = .returned (.string (b64 s)) ∧ Below w.heap.size w w' := by
  have hmk := fun (w : World) => zeroCells_made w ((s.size + 2) / 3 * 4) (by omega)
  have hsz : (s.size : Int) ≤ 105553116266000 := by omega
  have e1 : (((s.size + 2) / 3 * 4 : Nat) : Int) = ((s.size : Int) + 2) / 3 * 4 := by simp
  rw [e1] at hmk
  have hz := zero56
  have hown := World.ownsRow_made (base := w.heap.size) (e := 5) (size := 1) w (madeCells #[Value.int .u8 0] ((s.size + 2) / 3 * 4)) ((s.size + 2) / 3 * 4) (Nat.le_refl _) (by unfold maxLen; omega) (by simp [madeCells])
  have hB := (Below.refl w.heap.size w).alloc (Nat.le_refl _) (.cells (madeCells #[Value.int IntKind.u8 0] ((s.size + 2) / 3 * 4)) 5)
  have HO := Lib.hid hown
  have HB := Lib.hid hB
  have hl0 : ([] : List UInt8).length + (b64L s.data.toList).length ≤ 140737488355100 := by
    have hl : s.data.toList.length = s.size := by simp
    rw [b64L_len, hl]; simp only [List.length_nil]; omega
  have HL0 := Lib.hid (And.intro hl0 (show b64L s.data.toList = [] ++ b64L s.data.toList from rfl))
  obtain ⟨i0, hi, hz0, hz1, hz2⟩ := info_parts info5
  clear e1 hown hB hl0
  go_enter Try.func22, Try.ntmps22
  go_wp2
  go_loopw [0, 3] (fun sv ov wr => ∃ (r : ByteArray) (xs : List UInt8), sv = .string r ∧ r.size ≤ s.size ∧ Hid (xs.length + (b64L r.data.toList).length ≤ 140737488355100 ∧ b64L s.data.toList = xs ++ b64L r.data.toList) ∧ Hid (wr.ownsRow w.heap.size 5 1 ov xs.length (xs.map bv)) ∧ Hid (Below w.heap.size w wr)) (fun sv _ _ => strLen sv)
  case atStart => exact ⟨s, [], rfl, Nat.le_refl _, HL0, HO, HB⟩
  case round =>
    clear HO HB
    obtain ⟨r, xs, rfl, hrs, HL, HO, HB⟩ := hrel
    by_cases h0 : r.size = 0
    · have t1 : decide (0 < r.size) = false := decide_eq_false (by omega)
      have hr0 : r.data.toList = [] := List.eq_nil_of_length_eq_zero (by simpa using h0)
      have hl := HL.out.2
      rw [hr0] at hl
      simp only [b64L, List.append_nil] at hl
      have hconv := own_string HO.out
      have HR := Lib.hid (show b64 s = ⟨xs.toArray⟩ by unfold b64; rw [hl])
      clear hr0 hl h0 hmk
      go_wp2
      go_ret
      exact ⟨by rw [HR.out]; rfl, HB.out⟩
    · have t1 : decide (0 < r.size) = true := decide_eq_true (by omega)
      have hne : r.data.toList ≠ [] := by intro e; have := congrArg List.length e; rw [Array.length_toList] at this; exact h0 this
      have hstep := b64L_step _ hne
      have hrl : r.data.toList.length = r.size := by simp
      obtain ⟨m, hm⟩ : ∃ m, m = Nat.min r.size 3 := ⟨_, rfl⟩
      have hm3 : m ≤ 3 := by rw [hm]; exact Nat.min_le_right _ _
      have hm0 : 0 < m := by rw [hm]; exact Nat.lt_min.2 ⟨by omega, by omega⟩
      have hcp := run_copy_str (P := Try.prog) (wr.alloc (.cells (zerosN 3) 56)) 52 9 3 5 wr.heap.size 3 3 m r (zerosN 3) 56 Try.underlying52 (by kernel_rfl) (heap_alloc_new _ _) hm.symm (by simp [zerosN]; omega) (by omega)
      have h3 := three_cells r.data.toList
      rw [hrl, ← hm] at h3
      rw [h3] at hcp
      obtain ⟨x, y, z, hx, hy, hz'⟩ : ∃ x y z, (by3 r.data.toList).1 = x ∧ (by3 r.data.toList).2.1 = y ∧ (by3 r.data.toList).2.2 = z := ⟨_, _, _, rfl, rfl, rfl⟩
      rw [hx, hy, hz'] at hcp
      have h2 := setRow_heap (wr.alloc (.cells (zerosN 3) 56)) wr.heap.size (zerosN 3) #[bv x, bv y, bv z] 56 _ (heap_alloc_new _ _)
      have ho2 : ((wr.alloc (.cells (zerosN 3) 56)).setRow wr.heap.size #[bv x, bv y, bv z]).ownsRow w.heap.size 5 1 u3 xs.length (xs.map bv) :=
        ownsRow_keep2 HO.out fun k hk => by
          rw [setRow_other _ _ _ _ (by omega)]; exact Below.heap_alloc _ _ _ hk
      have hb2 : Below w.heap.size w ((wr.alloc (.cells (zerosN 3) 56)).setRow wr.heap.size #[bv x, bv y, bv z]) := below_setRow (HB.out.alloc HB.out.size _) HB.out.size _
      have hsz2 : ((wr.alloc (.cells (zerosN 3) 56)).setRow wr.heap.size #[bv x, bv y, bv z]).heap.size = wr.heap.size + 1 := by simp
      generalize (wr.alloc (.cells (zerosN 3) 56)).setRow wr.heap.size #[bv x, bv y, bv z] = w2 at hcp h2 ho2 hb2 hsz2
      have cx : w2.cell? ⟨wr.heap.size, 0, none⟩ = some (.int .u8 (x.toNat : Int)) := by simp [World.cell?, h2, bv]
      have cy : w2.cell? ⟨wr.heap.size, 1, none⟩ = some (.int .u8 (y.toNat : Int)) := by simp [World.cell?, h2, bv]
      have cz : w2.cell? ⟨wr.heap.size, 2, none⟩ = some (.int .u8 (z.toNat : Int)) := by simp [World.cell?, h2, bv]
      have bx : (x.toNat : Int) < 256 := by have := x.toNat_lt; omega
      have by_ : (y.toNat : Int) < 256 := by have := y.toNat_lt; omega
      have bz : (z.toNat : Int) < 256 := by have := z.toNat_lt; omega
      have hX := Lib.hid hx
      have hY := Lib.hid hy
      have hZ := Lib.hid hz'
      have HM := Lib.hid hm
      have HS := Lib.hid hstep
      have HO2 := Lib.hid ho2
      have HB2 := Lib.hid hb2
      have HSZ := Lib.hid hsz2
      clear hx hy hz' h3 hm hstep hne hrl hmk h2 ho2 hb2 hsz2
      obtain ⟨q, hq⟩ : ∃ q, q = val3 x y z := ⟨_, rfl⟩
      have hor := or3 x y z
      rw [← hq] at hor
      have HQ := Lib.hid hq
      clear hq
      go_wp2_with (at_builtin; refine Lib.wpList_copy_run _ rfl _ _ 52 9 rfl _ _ rfl rfl hcp ?_)
      have hq24 : q < 16777216 := by rw [HQ.out]; exact val3_lt x y z
      have HRS := Lib.hid hrs
      have HXS := Lib.hid (show xs.length + 5 ≤ 140737488355328 by have := HL.out.1; omega)
      go_loopw [3, 7] (fun ov iv wi => ∃ (i : Nat) (ys : List UInt8), i ≤ 4 ∧ iv = .int .i64 i ∧ Hid (ys = xs ++ (four m q).take i) ∧ Hid (wi.ownsRow w.heap.size 5 1 ov ys.length (ys.map bv)) ∧ Hid (Below w.heap.size w wi)) (fun _ iv _ => 4 - (intOf iv).toNat)
      case atStart => exact ⟨0, xs, by omega, rfl, Lib.hid (by simp), HO2, HB2⟩
      case round =>
        clear HO2 HB2 HO HB cx cy cz hor hcp hsz hs hrs bx by_ bz hz t1
        rename_i ov0 _
        obtain ⟨i, ys, hi4, rfl, HY, HO, HB⟩ := hrel
        have HX := Lib.hid (show ys.length + 1 ≤ 140737488355328 by rw [HY.out]; exact hx_bound xs m q i HXS.out)
        by_cases h4 : i < 4
        · rcases (by omega : i = 0 ∨ i = 1 ∨ i = 2 ∨ i = 3) with rfl | rfl | rfl | rfl
          · have t2 : decide ((m : Int) < 0) = false := decide_eq_false (by omega)
            have an : Go.bits BinOp.and IntKind.i64 ((q : Int) / 262144) 63 = ((q : Int) / 262144) % 64 := and63 (q / 262144) (by omega)
            have g1 : 0 ≤ ((q : Int) / 262144) % 64 := by omega
            have g2 : ((q : Int) / 262144) % 64 < 64 := by omega
            have k1 := btx_at { data := #[65, 66, 67, 68, 69, 70, 71, 72, 73, 74, 75, 76, 77, 78, 79, 80, 81, 82, 83, 84, 85, 86, 87, 88, 89, 90, 97, 98, 99, 100, 101, 102, 103, 104, 105, 106, 107, 108, 109, 110, 111, 112, 113, 114, 115, 116, 117, 118, 119, 120, 121, 122, 48, 49, 50, 51, 52, 53, 54, 55, 56, 57, 43, 47] } (((q : Int) / 262144) % 64)
            have Z1 := Lib.hid (show Value.int .u8 (btx { data := #[65, 66, 67, 68, 69, 70, 71, 72, 73, 74, 75, 76, 77, 78, 79, 80, 81, 82, 83, 84, 85, 86, 87, 88, 89, 90, 97, 98, 99, 100, 101, 102, 103, 104, 105, 106, 107, 108, 109, 110, 111, 112, 113, 114, 115, 116, 117, 118, 119, 120, 121, 122, 48, 49, 50, 51, 52, 53, 54, 55, 56, 57, 43, 47] } (((q : Int) / 262144) % 64)) = bv (dg SIGNS (q / 262144 % 64)) from btx_SIGNS (q / 262144 % 64) (by omega))
            have HF := Lib.hid (show (four m q).take 1 = (four m q).take 0 ++ [dg SIGNS (q / 262144 % 64)] from four_sign m q 0 (by omega) (by omega) (by simp))
            go_wp2_with (at_builtin; refine wpList_append_lies _ rfl (.tmp 48) (.tmp 56) 52 rfl w.heap.size 5 i0 (.int .u8 0) 1 1 Try.underlying52 hi hz0 hz1 hz2 rfl (by decide) _ _ _ rfl (HO.out.alloc _) ⟨wr.heap.size, 0, none⟩ 1 1 [Value.int IntKind.u8 (btx { data := #[65, 66, 67, 68, 69, 70, 71, 72, 73, 74, 75, 76, 77, 78, 79, 80, 81, 82, 83, 84, 85, 86, 87, 88, 89, 90, 97, 98, 99, 100, 101, 102, 103, 104, 105, 106, 107, 108, 109, 110, 111, 112, 113, 114, 115, 116, 117, 118, 119, 120, 121, 122, 48, 49, 50, 51, 52, 53, 54, 55, 56, 57, 43, 47] } (((q : Int) / 262144) % 64))] rfl rfl (World.news_of_block (heap_alloc_new _ _)) (by intro u hu; simp at hu; subst hu; rfl) (by decide) (by have := HX.out; unfold maxLen; omega) (by have := HX.out; omega) (by have := HB.out.size; simp; omega) _ rfl ?_)
            intro g cap w2 hown2 hgrow hat hltg
            have HY2 : Hid (ys ++ [dg SIGNS (q / 262144 % 64)] = xs ++ (four m q).take 1) := Lib.hid (by rw [HY.out, List.append_assoc, ← HF.out])
            have HO2 : Hid (w2.ownsRow w.heap.size 5 1 (.slice (some ⟨g, 0, none⟩) (ys.length + 1) cap) (ys ++ [dg SIGNS (q / 262144 % 64)]).length ((ys ++ [dg SIGNS (q / 262144 % 64)]).map bv)) := Lib.hid (by
              rw [List.length_append, List.map_append]
              have e2 : ([dg SIGNS (q / 262144 % 64)].map bv : List Value) = [bv (dg SIGNS (q / 262144 % 64))] := rfl
              rw [e2]; rw [← Z1.out]
              exact hown2)
            have HB2 := Lib.hid ((HB.out.alloc HB.out.size _).grown hgrow (by have := HB.out.size; simp; omega) (fun k hk => (HO.out.lt k hk).1))
            clear hown2 hgrow hat hltg an g1 g2 k1
            go_wp2
            exact ⟨⟨1, _, by omega, by go_num, HY2, HO2, HB2⟩, by simp [intOf]⟩
          · have t2 : decide ((m : Int) < 1) = false := decide_eq_false (by omega)
            have an : Go.bits BinOp.and IntKind.i64 ((q : Int) / 4096) 63 = ((q : Int) / 4096) % 64 := and63 (q / 4096) (by omega)
            have g1 : 0 ≤ ((q : Int) / 4096) % 64 := by omega
            have g2 : ((q : Int) / 4096) % 64 < 64 := by omega
            have k1 := btx_at { data := #[65, 66, 67, 68, 69, 70, 71, 72, 73, 74, 75, 76, 77, 78, 79, 80, 81, 82, 83, 84, 85, 86, 87, 88, 89, 90, 97, 98, 99, 100, 101, 102, 103, 104, 105, 106, 107, 108, 109, 110, 111, 112, 113, 114, 115, 116, 117, 118, 119, 120, 121, 122, 48, 49, 50, 51, 52, 53, 54, 55, 56, 57, 43, 47] } (((q : Int) / 4096) % 64)
            have Z1 := Lib.hid (show Value.int .u8 (btx { data := #[65, 66, 67, 68, 69, 70, 71, 72, 73, 74, 75, 76, 77, 78, 79, 80, 81, 82, 83, 84, 85, 86, 87, 88, 89, 90, 97, 98, 99, 100, 101, 102, 103, 104, 105, 106, 107, 108, 109, 110, 111, 112, 113, 114, 115, 116, 117, 118, 119, 120, 121, 122, 48, 49, 50, 51, 52, 53, 54, 55, 56, 57, 43, 47] } (((q : Int) / 4096) % 64)) = bv (dg SIGNS (q / 4096 % 64)) from btx_SIGNS (q / 4096 % 64) (by omega))
            have HF := Lib.hid (show (four m q).take 2 = (four m q).take 1 ++ [dg SIGNS (q / 4096 % 64)] from four_sign m q 1 (by omega) (by omega) (by simp))
            go_wp2_with (at_builtin; refine wpList_append_lies _ rfl (.tmp 48) (.tmp 56) 52 rfl w.heap.size 5 i0 (.int .u8 0) 1 1 Try.underlying52 hi hz0 hz1 hz2 rfl (by decide) _ _ _ rfl (HO.out.alloc _) ⟨wr.heap.size, 0, none⟩ 1 1 [Value.int IntKind.u8 (btx { data := #[65, 66, 67, 68, 69, 70, 71, 72, 73, 74, 75, 76, 77, 78, 79, 80, 81, 82, 83, 84, 85, 86, 87, 88, 89, 90, 97, 98, 99, 100, 101, 102, 103, 104, 105, 106, 107, 108, 109, 110, 111, 112, 113, 114, 115, 116, 117, 118, 119, 120, 121, 122, 48, 49, 50, 51, 52, 53, 54, 55, 56, 57, 43, 47] } (((q : Int) / 4096) % 64))] rfl rfl (World.news_of_block (heap_alloc_new _ _)) (by intro u hu; simp at hu; subst hu; rfl) (by decide) (by have := HX.out; unfold maxLen; omega) (by have := HX.out; omega) (by have := HB.out.size; simp; omega) _ rfl ?_)
            intro g cap w2 hown2 hgrow hat hltg
            have HY2 : Hid (ys ++ [dg SIGNS (q / 4096 % 64)] = xs ++ (four m q).take 2) := Lib.hid (by rw [HY.out, List.append_assoc, ← HF.out])
            have HO2 : Hid (w2.ownsRow w.heap.size 5 1 (.slice (some ⟨g, 0, none⟩) (ys.length + 1) cap) (ys ++ [dg SIGNS (q / 4096 % 64)]).length ((ys ++ [dg SIGNS (q / 4096 % 64)]).map bv)) := Lib.hid (by
              rw [List.length_append, List.map_append]
              have e2 : ([dg SIGNS (q / 4096 % 64)].map bv : List Value) = [bv (dg SIGNS (q / 4096 % 64))] := rfl
              rw [e2]; rw [← Z1.out]
              exact hown2)
            have HB2 := Lib.hid ((HB.out.alloc HB.out.size _).grown hgrow (by have := HB.out.size; simp; omega) (fun k hk => (HO.out.lt k hk).1))
            clear hown2 hgrow hat hltg an g1 g2 k1
            go_wp2
            exact ⟨⟨2, _, by omega, by go_num, HY2, HO2, HB2⟩, by simp [intOf]⟩
          · by_cases hmi : m < 2
            · have t2 : decide ((m : Int) < 2) = true := decide_eq_true (by omega)
              have HF := Lib.hid (show (four m q).take 3 = (four m q).take 2 ++ [61] from four_pad m q 2 (by omega) (by omega))
              go_wp2_with (at_builtin; refine wpList_append_lies _ rfl (.tmp 45) (.tmp 46) 52 rfl w.heap.size 5 i0 (.int .u8 0) 1 1 Try.underlying52 hi hz0 hz1 hz2 rfl (by decide) _ _ _ rfl (HO.out.alloc _) ⟨wr.heap.size, 0, none⟩ 1 1 [Value.int IntKind.u8 61] rfl rfl (World.news_of_block (heap_alloc_new _ _)) (by intro u hu; simp at hu; subst hu; rfl) (by decide) (by have := HX.out; unfold maxLen; omega) (by have := HX.out; omega) (by have := HB.out.size; simp; omega) _ rfl ?_)
              intro g cap w2 hown2 hgrow hat hltg
              have HY2 : Hid (ys ++ [61] = xs ++ (four m q).take 3) := Lib.hid (by rw [HY.out, List.append_assoc, ← HF.out])
              have HO2 : Hid (w2.ownsRow w.heap.size 5 1 (.slice (some ⟨g, 0, none⟩) (ys.length + 1) cap) (ys ++ [61]).length ((ys ++ [61]).map bv)) := Lib.hid (by
                rw [List.length_append, List.map_append]
                have e2 : ([61].map bv : List Value) = [bv (61)] := rfl
                rw [e2]
                exact hown2)
              have HB2 := Lib.hid ((HB.out.alloc HB.out.size _).grown hgrow (by have := HB.out.size; simp; omega) (fun k hk => (HO.out.lt k hk).1))
              clear hown2 hgrow hat hltg
              go_wp2
              exact ⟨⟨3, _, by omega, by go_num, HY2, HO2, HB2⟩, by simp [intOf]⟩
            · have t2 : decide ((m : Int) < 2) = false := decide_eq_false (by omega)
              have an : Go.bits BinOp.and IntKind.i64 ((q : Int) / 64) 63 = ((q : Int) / 64) % 64 := and63 (q / 64) (by omega)
              have g1 : 0 ≤ ((q : Int) / 64) % 64 := by omega
              have g2 : ((q : Int) / 64) % 64 < 64 := by omega
              have k1 := btx_at { data := #[65, 66, 67, 68, 69, 70, 71, 72, 73, 74, 75, 76, 77, 78, 79, 80, 81, 82, 83, 84, 85, 86, 87, 88, 89, 90, 97, 98, 99, 100, 101, 102, 103, 104, 105, 106, 107, 108, 109, 110, 111, 112, 113, 114, 115, 116, 117, 118, 119, 120, 121, 122, 48, 49, 50, 51, 52, 53, 54, 55, 56, 57, 43, 47] } (((q : Int) / 64) % 64)
              have Z1 := Lib.hid (show Value.int .u8 (btx { data := #[65, 66, 67, 68, 69, 70, 71, 72, 73, 74, 75, 76, 77, 78, 79, 80, 81, 82, 83, 84, 85, 86, 87, 88, 89, 90, 97, 98, 99, 100, 101, 102, 103, 104, 105, 106, 107, 108, 109, 110, 111, 112, 113, 114, 115, 116, 117, 118, 119, 120, 121, 122, 48, 49, 50, 51, 52, 53, 54, 55, 56, 57, 43, 47] } (((q : Int) / 64) % 64)) = bv (dg SIGNS (q / 64 % 64)) from btx_SIGNS (q / 64 % 64) (by omega))
              have HF := Lib.hid (show (four m q).take 3 = (four m q).take 2 ++ [dg SIGNS (q / 64 % 64)] from four_sign m q 2 (by omega) (by omega) (by simp))
              go_wp2_with (at_builtin; refine wpList_append_lies _ rfl (.tmp 48) (.tmp 56) 52 rfl w.heap.size 5 i0 (.int .u8 0) 1 1 Try.underlying52 hi hz0 hz1 hz2 rfl (by decide) _ _ _ rfl (HO.out.alloc _) ⟨wr.heap.size, 0, none⟩ 1 1 [Value.int IntKind.u8 (btx { data := #[65, 66, 67, 68, 69, 70, 71, 72, 73, 74, 75, 76, 77, 78, 79, 80, 81, 82, 83, 84, 85, 86, 87, 88, 89, 90, 97, 98, 99, 100, 101, 102, 103, 104, 105, 106, 107, 108, 109, 110, 111, 112, 113, 114, 115, 116, 117, 118, 119, 120, 121, 122, 48, 49, 50, 51, 52, 53, 54, 55, 56, 57, 43, 47] } (((q : Int) / 64) % 64))] rfl rfl (World.news_of_block (heap_alloc_new _ _)) (by intro u hu; simp at hu; subst hu; rfl) (by decide) (by have := HX.out; unfold maxLen; omega) (by have := HX.out; omega) (by have := HB.out.size; simp; omega) _ rfl ?_)
              intro g cap w2 hown2 hgrow hat hltg
              have HY2 : Hid (ys ++ [dg SIGNS (q / 64 % 64)] = xs ++ (four m q).take 3) := Lib.hid (by rw [HY.out, List.append_assoc, ← HF.out])
              have HO2 : Hid (w2.ownsRow w.heap.size 5 1 (.slice (some ⟨g, 0, none⟩) (ys.length + 1) cap) (ys ++ [dg SIGNS (q / 64 % 64)]).length ((ys ++ [dg SIGNS (q / 64 % 64)]).map bv)) := Lib.hid (by
                rw [List.length_append, List.map_append]
                have e2 : ([dg SIGNS (q / 64 % 64)].map bv : List Value) = [bv (dg SIGNS (q / 64 % 64))] := rfl
                rw [e2]; rw [← Z1.out]
                exact hown2)
              have HB2 := Lib.hid ((HB.out.alloc HB.out.size _).grown hgrow (by have := HB.out.size; simp; omega) (fun k hk => (HO.out.lt k hk).1))
              clear hown2 hgrow hat hltg an g1 g2 k1
              go_wp2
              exact ⟨⟨3, _, by omega, by go_num, HY2, HO2, HB2⟩, by simp [intOf]⟩
          · by_cases hmi : m < 3
            · have t2 : decide ((m : Int) < 3) = true := decide_eq_true (by omega)
              have HF := Lib.hid (show (four m q).take 4 = (four m q).take 3 ++ [61] from four_pad m q 3 (by omega) (by omega))
              go_wp2_with (at_builtin; refine wpList_append_lies _ rfl (.tmp 45) (.tmp 46) 52 rfl w.heap.size 5 i0 (.int .u8 0) 1 1 Try.underlying52 hi hz0 hz1 hz2 rfl (by decide) _ _ _ rfl (HO.out.alloc _) ⟨wr.heap.size, 0, none⟩ 1 1 [Value.int IntKind.u8 61] rfl rfl (World.news_of_block (heap_alloc_new _ _)) (by intro u hu; simp at hu; subst hu; rfl) (by decide) (by have := HX.out; unfold maxLen; omega) (by have := HX.out; omega) (by have := HB.out.size; simp; omega) _ rfl ?_)
              intro g cap w2 hown2 hgrow hat hltg
              have HY2 : Hid (ys ++ [61] = xs ++ (four m q).take 4) := Lib.hid (by rw [HY.out, List.append_assoc, ← HF.out])
              have HO2 : Hid (w2.ownsRow w.heap.size 5 1 (.slice (some ⟨g, 0, none⟩) (ys.length + 1) cap) (ys ++ [61]).length ((ys ++ [61]).map bv)) := Lib.hid (by
                rw [List.length_append, List.map_append]
                have e2 : ([61].map bv : List Value) = [bv (61)] := rfl
                rw [e2]
                exact hown2)
              have HB2 := Lib.hid ((HB.out.alloc HB.out.size _).grown hgrow (by have := HB.out.size; simp; omega) (fun k hk => (HO.out.lt k hk).1))
              clear hown2 hgrow hat hltg
              go_wp2
              exact ⟨⟨4, _, by omega, by go_num, HY2, HO2, HB2⟩, by simp [intOf]⟩
            · have t2 : decide ((m : Int) < 3) = false := decide_eq_false (by omega)
              have an : Go.bits BinOp.and IntKind.i64 ((q : Int)) 63 = ((q : Int)) % 64 := and63 (q) (by omega)
              have g1 : 0 ≤ ((q : Int)) % 64 := by omega
              have g2 : ((q : Int)) % 64 < 64 := by omega
              have k1 := btx_at { data := #[65, 66, 67, 68, 69, 70, 71, 72, 73, 74, 75, 76, 77, 78, 79, 80, 81, 82, 83, 84, 85, 86, 87, 88, 89, 90, 97, 98, 99, 100, 101, 102, 103, 104, 105, 106, 107, 108, 109, 110, 111, 112, 113, 114, 115, 116, 117, 118, 119, 120, 121, 122, 48, 49, 50, 51, 52, 53, 54, 55, 56, 57, 43, 47] } (((q : Int)) % 64)
              have Z1 := Lib.hid (show Value.int .u8 (btx { data := #[65, 66, 67, 68, 69, 70, 71, 72, 73, 74, 75, 76, 77, 78, 79, 80, 81, 82, 83, 84, 85, 86, 87, 88, 89, 90, 97, 98, 99, 100, 101, 102, 103, 104, 105, 106, 107, 108, 109, 110, 111, 112, 113, 114, 115, 116, 117, 118, 119, 120, 121, 122, 48, 49, 50, 51, 52, 53, 54, 55, 56, 57, 43, 47] } (((q : Int)) % 64)) = bv (dg SIGNS (q % 64)) from btx_SIGNS (q % 64) (by omega))
              have HF := Lib.hid (show (four m q).take 4 = (four m q).take 3 ++ [dg SIGNS (q % 64)] from four_sign m q 3 (by omega) (by omega) (by simp))
              go_wp2_with (at_builtin; refine wpList_append_lies _ rfl (.tmp 48) (.tmp 56) 52 rfl w.heap.size 5 i0 (.int .u8 0) 1 1 Try.underlying52 hi hz0 hz1 hz2 rfl (by decide) _ _ _ rfl (HO.out.alloc _) ⟨wr.heap.size, 0, none⟩ 1 1 [Value.int IntKind.u8 (btx { data := #[65, 66, 67, 68, 69, 70, 71, 72, 73, 74, 75, 76, 77, 78, 79, 80, 81, 82, 83, 84, 85, 86, 87, 88, 89, 90, 97, 98, 99, 100, 101, 102, 103, 104, 105, 106, 107, 108, 109, 110, 111, 112, 113, 114, 115, 116, 117, 118, 119, 120, 121, 122, 48, 49, 50, 51, 52, 53, 54, 55, 56, 57, 43, 47] } (((q : Int)) % 64))] rfl rfl (World.news_of_block (heap_alloc_new _ _)) (by intro u hu; simp at hu; subst hu; rfl) (by decide) (by have := HX.out; unfold maxLen; omega) (by have := HX.out; omega) (by have := HB.out.size; simp; omega) _ rfl ?_)
              intro g cap w2 hown2 hgrow hat hltg
              have HY2 : Hid (ys ++ [dg SIGNS (q % 64)] = xs ++ (four m q).take 4) := Lib.hid (by rw [HY.out, List.append_assoc, ← HF.out])
              have HO2 : Hid (w2.ownsRow w.heap.size 5 1 (.slice (some ⟨g, 0, none⟩) (ys.length + 1) cap) (ys ++ [dg SIGNS (q % 64)]).length ((ys ++ [dg SIGNS (q % 64)]).map bv)) := Lib.hid (by
                rw [List.length_append, List.map_append]
                have e2 : ([dg SIGNS (q % 64)].map bv : List Value) = [bv (dg SIGNS (q % 64))] := rfl
                rw [e2]; rw [← Z1.out]
                exact hown2)
              have HB2 := Lib.hid ((HB.out.alloc HB.out.size _).grown hgrow (by have := HB.out.size; simp; omega) (fun k hk => (HO.out.lt k hk).1))
              clear hown2 hgrow hat hltg an g1 g2 k1
              go_wp2
              exact ⟨⟨4, _, by omega, by go_num, HY2, HO2, HB2⟩, by simp [intOf]⟩
        · obtain rfl : i = 4 := by omega
          have HY2 := Lib.hid (show ys = xs ++ fourOf r.data.toList by
            have e4 : (four m q).take 4 = four m q := List.take_of_length_le (by rw [four_len]; omega)
            rw [HY.out, e4]
            have hl : r.data.toList.length = r.size := by simp
            unfold fourOf; rw [hl, ← HM.out, hX.out, hY.out, hZ.out, ← HQ.out])
          have HS2 := Lib.hid (show (r.extract m r.size).data.toList = r.data.toList.drop 3 from ext_drop r m HM.out)
          have HMN := Lib.hid (show (min 3 (r.size : Int)).toNat = m by rw [HM.out]; exact min_toNat r.size)
          have hy := HY2.out
          have hst := HS.out
          have hL2 : ys.length + (b64L (r.extract m r.size).data.toList).length ≤ 140737488355100 ∧ b64L s.data.toList = ys ++ b64L (r.extract m r.size).data.toList := by
            rw [HS2.out]
            refine ⟨?_, ?_⟩
            · have h1 := HL.out.1
              rw [hst, List.length_append] at h1
              rw [hy, List.length_append]; omega
            · rw [HL.out.2, hst, hy, List.append_assoc]
          have HL2 := Lib.hid hL2
          clear hy hst hL2
          go_wp2
          rw [HMN.out]
          exact ⟨⟨_, ys, rfl, by have := HRS.out; simp; omega, HL2, HO, HB⟩, by simp [strLen]; omega⟩
end Go.Proofs.Ytaghjiffmondjaa
