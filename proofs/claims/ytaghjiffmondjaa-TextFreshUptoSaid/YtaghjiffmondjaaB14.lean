/-
  text.Join: what it answers of every list of lines (whose lengths a slice can bear together).
-/
import Derived.Test.YtaghjiffmondjaaB13
set_option linter.unusedVariables false
set_option linter.unusedSimpArgs false
namespace Go.Proofs.Ytaghjiffmondjaa
open Go.RowKit

def noNl (s : ByteArray) : Bool := s.data.toList.all (· != 10)
def joinL (ls : List ByteArray) : List UInt8 := ls.flatMap fun l => l.data.toList ++ [10]
def joinOf (ls : List ByteArray) : ByteArray × Int := if ls.all noNl then (mk (joinL ls), 0) else (⟨#[]⟩, 43)

/-- a slice that can be read as these texts -/
def StrsIn (w : World) (v : Value) (xs : List ByteArray) : Prop :=
  ∃ A cap, v = .slice A xs.length cap ∧ (0 < xs.length → ∃ b o, A = some ⟨b, o, none⟩ ∧ b < w.heap.size ∧ ∀ i (h : i < xs.length), w.cell? ⟨b, o + i, none⟩ = some (.string xs[i]))
theorem StrsIn.keep {w w' : World} {v : Value} {xs : List ByteArray} (h : StrsIn w v xs) (hb : ∀ k, k < w.heap.size → w'.heap[k]? = w.heap[k]?) (hs : w.heap.size ≤ w'.heap.size) : StrsIn w' v xs := by
  obtain ⟨A, cap, hv, h⟩ := h
  refine ⟨A, cap, hv, fun hp => ?_⟩
  obtain ⟨b, o, hA, hlt, hc⟩ := h hp
  exact ⟨b, o, hA, by omega, fun i hi => (World.cell?_of_block (hb b hlt)).trans (hc i hi)⟩
theorem StrsIn.of_own {w : World} {B : Nat} {v : Value} {xs : List ByteArray} (h : StrsOwn B w v xs) : StrsIn w v xs := by
  rcases h.2 with ⟨rfl, h0⟩ | ⟨g, cap, cur, rfl, hb, hg, hn, hm, hs, ht⟩
  · exact ⟨none, 0, by rw [h0], fun hp => by omega⟩
  · refine ⟨_, cap, rfl, fun hp => ⟨g, 0, rfl, (Array.getElem?_eq_some_iff.1 hg).1, fun i hi => ?_⟩⟩
    have := World.ownsRow.cells (g := g) h rfl i (.string xs[i]) (by simp [hi])
    rw [Addr.add_lit] at this
    exact this

theorem nl_round (s : ByteArray) (w0 : World) (i : Nat) (hi : i < s.size) (w : World) (h : (∀ c ∈ s.data.toList.take i, (c != 10) = true) ∧ w0 = w) :
    Calls Try.prog 44 (#[.int .u8 (s[i].toNat : Int)] ++ #[]) w fun e w' => ∃ b, e = .returned (.bool b) ∧ (b = true → (∀ c ∈ s.data.toList.take (i + 1), (c != 10) = true) ∧ w0 = w') ∧ (b = false → (∃ c ∈ s.data.toList, (c != 10) = false) ∧ w0 = w') := by
  obtain ⟨hall, rfl⟩ := h
  have hc : (s[i].toNat : Int) < 256 := by have := s[i].toNat_lt; omega
  by_cases h10 : s[i] = 10
  · have t1 : ((s[i].toNat : Int) != 10) = false := by rw [h10]; rfl
    have H := Lib.hid h10
    have HA := Lib.hid hall
    clear h10 hall
    go_enter Try.func44, Try.ntmps44
    go_wp2
    go_ret
    exact ⟨false, rfl, by simp, fun _ => ⟨⟨s[i], List.getElem_mem (l := s.data.toList) (by simpa using hi), by rw [H.out]; rfl⟩, rfl⟩⟩
  · have t1 : ((s[i].toNat : Int) != 10) = true := by
      simp; intro h; exact h10 (UInt8.toNat_inj.1 (by have : (10 : UInt8).toNat = 10 := rfl; omega))
    have H := Lib.hid h10
    have HA := Lib.hid hall
    clear h10 hall
    go_enter Try.func44, Try.ntmps44
    go_wp2
    go_ret
    refine ⟨true, rfl, fun _ => ⟨?_, rfl⟩, by simp⟩
    rw [take_snoc s i hi]
    intro c hc
    rcases List.mem_append.1 hc with hc | hc
    · exact HA.out c hc
    · simp at hc; subst hc; simpa using H.out

theorem nl_calls (s : ByteArray) (hs : s.size ≤ maxLen) (w : World) :
    Calls Try.prog 43 #[.string s, .func (.func 44) #[] #[]] w fun e w' => e = .returned (.bool (noNl s)) ∧ w = w' := by
  refine (each_any 44 #[] s hs (fun i w' => (∀ c ∈ s.data.toList.take i, (c != 10) = true) ∧ w = w') (fun i w' => (∃ c ∈ s.data.toList, (c != 10) = false) ∧ w = w') (fun _ _ => rfl) (fun i hi w' h => nl_round s w i hi w' h) w ⟨by simp, rfl⟩).mono ?_
  rintro e w1 h1
  rcases h1 with ⟨he, h, hw⟩ | ⟨he, i, hi, ⟨c, hc, hb⟩, hw⟩
  · rw [List.take_of_length_le (by simp)] at h
    exact ⟨by rw [he]; unfold noNl; rw [List.all_eq_true.2 h], hw⟩
  · refine ⟨?_, hw⟩
    rw [he]; unfold noNl; rw [List.all_eq_false.2 ⟨c, hc, by simp [hb]⟩]

/-- bytes of lines and their newlines -/
def sumL (ls : List ByteArray) : Nat := (ls.map fun l => l.size + 1).sum
theorem joinL_len (ls : List ByteArray) : (joinL ls).length = sumL ls := by
  unfold joinL sumL
  induction ls with
  | nil => rfl
  | cons l ls ih => simp only [List.flatMap_cons, List.length_append, List.map_cons, List.sum_cons, ih]; simp
theorem sumL_take (ls : List ByteArray) (i : Nat) (hi : i < ls.length) : sumL (ls.take (i + 1)) = sumL (ls.take i) + (ls[i].size + 1) := by
  unfold sumL
  rw [List.take_succ_eq_append_getElem hi, List.map_append, List.sum_append]; simp only [List.map_cons, List.map_nil, List.sum_cons, List.sum_nil, Nat.add_zero]
theorem sumL_le (ls : List ByteArray) (i : Nat) : sumL (ls.take i) ≤ sumL ls := by
  unfold sumL
  conv => rhs; rw [← List.take_append_drop i ls]
  rw [List.map_append, List.sum_append]; omega

theorem joinL_take (ls : List ByteArray) (i : Nat) (hi : i < ls.length) : joinL (ls.take (i + 1)) = joinL (ls.take i) ++ ls[i].data.toList ++ [10] := by
  unfold joinL
  rw [List.take_succ_eq_append_getElem hi, List.flatMap_append]; simp

/-- how many bytes are made out of the first i lines, with one for each line behind them -/
def accL (ls : List ByteArray) (i : Nat) : Nat := ls.length - i + sumL (ls.take i)
theorem accL_zero (ls : List ByteArray) : accL ls 0 = ls.length := by simp [accL, sumL]
theorem accL_succ (ls : List ByteArray) (i : Nat) (hi : i < ls.length) : accL ls (i + 1) = accL ls i + ls[i].size := by
  unfold accL; rw [sumL_take ls i hi]; omega
theorem accL_end (ls : List ByteArray) : accL ls ls.length = sumL ls := by simp [accL]
theorem accL_le (ls : List ByteArray) (i : Nat) (hi : i ≤ ls.length) : accL ls i ≤ sumL ls := by
  unfold accL
  have h : sumL ls = sumL (ls.take i) + sumL (ls.drop i) := by
    unfold sumL
    conv => lhs; rw [← List.take_append_drop i ls]
    rw [List.map_append, List.sum_append]
  have h2 : (ls.drop i).length ≤ sumL (ls.drop i) := by
    unfold sumL
    generalize ls.drop i = l
    induction l with
    | nil => simp
    | cons x l ih => simp only [List.length_cons, List.map_cons, List.sum_cons]; omega
  rw [List.length_drop] at h2
  omega

theorem made_full (w : World) (n : Nat) (hn : n ≤ 281474976710656) :
    (Instr.makeSlice 52 (.int .i64 (n : Int)) (.int .i64 (n : Int))).run Try.prog w = .ok (.slice (some ⟨w.heap.size, 0, none⟩) n n) (w.alloc (.cells (madeCells #[Value.int .u8 0] n) 5)) := by
  obtain ⟨i0, hi, hz0, hz1, hz2⟩ := info_parts info5
  have hr := run_make (P := Try.prog) w 52 5 i0 (.int .u8 0) Try.underlying52 hi hz0 .i64 .i64 n n (by omega) (by omega) (by rw [hz2]; omega) (by omega)
  rw [hz1] at hr
  simpa [Value.cells] using hr
theorem run_copy_at {P : Program} (w : World) (dT sT ty elem : TypeId) (g o dLen dCap : Nat) (s : ByteArray) (cur : Array Value) (t : TypeId)
    (hu : P.underlying dT = some (.slice elem)) (hs : (P.info? elem).map (·.size) = some 1) (hg : w.heap[g]? = some (.cells cur t (0, 0))) (hle : s.size ≤ dLen) (hfit : o + s.size ≤ cur.size) (hmx : s.size ≤ 140737488355328) :
    (Builtin.copy_ #[dT, sT] ty #[.slice (some ⟨g, o, none⟩) dLen dCap, .string s]).run P w =
      .ok (.int .i64 (s.size : Int)) (w.setRow g (cur.toList.take o ++ s.data.toList.map bv ++ cur.toList.drop (o + s.size)).toArray) := by
  have h := Lib.run_copy_row_string (P := P) w dT sT ty elem g o dLen dCap s cur t hu hs hg hle hfit
  rw [h]
  have e : goInt (s.size : Int) = .int .i64 (s.size : Int) := rfl
  rw [e]; rfl

theorem row_string {w : World} {g n cap : Nat} {C : Array Value} {t : TypeId} {l : List UInt8} (hA : w.heap[g]? = some (.cells C t (0, 0))) (hn : l.length = n) (hl : C.toList.take n = l.map bv) :
    (convert 52 9 (.slice (some ⟨g, 0, none⟩) n cap)).run Try.prog w = .ok (.string (mk l)) w := by
  subst hn
  have hr := run_convert_bytes_arg (P := Try.prog) w 52 5 Try.underlying52 Try.underlying5 g 0 l.length cap (l.map fun c => (c.toNat : Int)) (by simp) (fun i hi' => by
    simp only [World.cell?, hA]
    have h1 : (C.toList.take l.length)[i]? = (l.map bv)[i]? := by rw [hl]
    rw [List.getElem?_take, if_pos hi'] at h1
    have h2 : C[i]? = some (bv l[i]) := by rw [show C[i]? = C.toList[i]? by simp, h1]; simp [hi']
    simp [h2, bv, List.getD, hi']) 9 Try.underlying9
  rw [hr]
  congr 2
  have e : strOfNums (l.map fun c => (c.toNat : Int)) = mk l := by
    unfold strOfNums mk
    congr 2
    rw [List.map_map]
    conv => rhs; rw [← List.map_id l]
    apply List.map_congr_left
    intro c _
    simp
  rw [e]

/-- the row that is filled: the first i lines stand in it -/
def JoinW (g n : Nat) (ls : List ByteArray) (i : Nat) (w : World) : Prop :=
  ∃ C : Array Value, w.heap[g]? = some (.cells C 5 (0, 0)) ∧ C.size = n ∧ C.toList.take (sumL (ls.take i)) = (joinL (ls.take i)).map bv
theorem joinW_step {g v i p : Nat} {ls : List ByteArray} {l : ByteArray} {C : Array Value} {w : World} (hp : p = sumL (ls.take i)) (hst : sumL (ls.take (i + 1)) = sumL (ls.take i) + (l.size + 1))
    (hjt : joinL (ls.take (i + 1)) = joinL (ls.take i) ++ l.data.toList ++ [10]) (hCs : C.size = v) (hCt : C.toList.take (sumL (ls.take i)) = (joinL (ls.take i)).map bv) (hroom : p + l.size + 1 ≤ v)
    (hW : w.heap[g]? = some (.cells (C.toList.take p ++ l.data.toList.map bv ++ C.toList.drop (p + l.size)).toArray 5 (0, 0))) (hsz : (C.toList.take p ++ l.data.toList.map bv ++ C.toList.drop (p + l.size)).toArray.size = v) :
    JoinW g v ls (i + 1) (w.setCell ⟨g, p + l.size, none⟩ (.int .u8 10)) := by
  have hb := block_setCell (off := p + l.size) hW (.int .u8 10)
  refine ⟨_, hb, by rw [Array.size_setIfInBounds]; exact hsz, ?_⟩
  have h1 : l.data.toList.length = l.size := by simp
  have hlen : (C.toList.take p ++ l.data.toList.map bv).length = p + l.size := by
    simp only [List.length_append, List.length_take, List.length_map, Array.length_toList, hCs, h1]; omega
  have hv : Value.int .u8 10 = bv 10 := rfl
  rw [hst, ← hp, hjt, List.map_append, List.map_append, ← hCt, ← hp, Array.toList_setIfInBounds, hv]
  rw [show p + (l.size + 1) = (p + l.size) + 1 by omega, List.take_succ_eq_append_getElem (by simp only [List.length_set, List.length_append, List.length_take, List.length_map, List.length_drop, Array.length_toList, hCs, h1]; omega)]
  simp only [List.getElem_set_self, List.map_cons, List.map_nil]
  congr 1
  rw [List.take_set_of_le (Nat.le_refl _)]
  rw [List.take_append_of_le_length (by rw [hlen]; exact Nat.le_refl _), List.take_of_length_le (by rw [hlen]; exact Nat.le_refl _)]

set_option maxHeartbeats 1000000 in
set_option maxRecDepth 100000 in
theorem join_calls (ls : List ByteArray) (hs : sumL ls ≤ 140737488355328) (v : Value) (w : World) (hv : StrsIn w v ls) :
    Calls Try.prog 15 #[v] w fun e w' => e = .returned (.tuple #[.string (joinOf ls).1, .int .i64 (joinOf ls).2]) ∧ Below w.heap.size w w' := by
  obtain ⟨A, cap, rfl, hc⟩ := hv
  have HC := Lib.hid hc
  have HS := Lib.hid hs
  have hn63 : ls.length ≤ 2 ^ 63 - 1 := by have := accL_le ls 0 (by omega); rw [accL_zero] at this; omega
  clear hc hs
  go_enter Try.func15, Try.ntmps15
  go_wp2
  go_loopw [4, 15] (fun nv iv wr => ∃ (i a : Nat), i ≤ ls.length ∧ iv = .int .i64 i ∧ nv = .int .i64 a ∧ Hid (a = accL ls i ∧ ∀ l ∈ ls.take i, noNl l = true) ∧ w = wr) (fun _ iv _ => ls.length - (intOf iv).toNat)
  case atStart => exact ⟨0, ls.length, by omega, rfl, rfl, Lib.hid ⟨(accL_zero ls).symm, by simp⟩, rfl⟩
  case round =>
    obtain ⟨i, a, hi, rfl, rfl, HA, rfl⟩ := hrel
    by_cases hlt : i < ls.length
    · obtain ⟨b, o, rfl, hb, hC1⟩ := HC.out (by omega)
      have c1 := hC1 i hlt
      clear hC1
      have hsz : ls[i].size ≤ 140737488355328 := by have := accL_le ls (i + 1) (by omega); rw [accL_succ ls i hlt] at this; have := HS.out; omega
      have hsum := accL_succ ls i hlt
      have hale : a + ls[i].size ≤ 140737488355328 := by rw [HA.out.1, ← hsum]; have := accL_le ls (i + 1) (by omega); have := HS.out; omega
      have hmemx : ls[i] ∈ ls := List.getElem_mem hlt
      have htk := List.take_succ_eq_append_getElem hlt
      obtain ⟨l, hl⟩ : ∃ l, l = ls[i] := ⟨_, rfl⟩
      rw [← hl] at c1 hsz hsum hale hmemx htk
      have HSUM := Lib.hid hsum
      have HSZ := Lib.hid (show l.size ≤ maxLen by unfold maxLen; omega)
      have HM := Lib.hid hmemx
      have HTK := Lib.hid htk
      have HAL := Lib.hid hale
      replace hale : a + l.size ≤ 2 ^ 63 - 1 := by omega
      clear hl hsz hsum hmemx htk
      go_wp2_with fail
      refine (nl_calls l HSZ.out w).mono ?_
      rintro e w3 ⟨rfl, rfl⟩
      obtain ⟨q, hq⟩ : ∃ q, q = noNl l := ⟨_, rfl⟩
      rw [← hq]
      cases q
      · have HF := Lib.hid (show joinOf ls = (⟨#[]⟩, 43) by
          unfold joinOf
          rw [if_neg (fun h => by have := List.all_eq_true.1 h l HM.out; rw [← hq] at this; cases this)])
        clear hq
        go_wp2
        go_ret2
        exact ⟨by rw [HF.out]; rfl, Below.refl _ _⟩
      · have HA2 := Lib.hid (show a + l.size = accL ls (i + 1) ∧ ∀ l ∈ ls.take (i + 1), noNl l = true by
          refine ⟨by rw [HSUM.out, HA.out.1], ?_⟩
          rw [HTK.out]
          intro x hx
          rcases List.mem_append.1 hx with hx | hx
          · exact HA.out.2 x hx
          · simp at hx; subst hx; exact hq.symm)
        clear hq
        go_wp2
        exact ⟨⟨i + 1, a + l.size, by omega, by go_num, by go_num, HA2, trivial⟩, by simp [intOf]; omega⟩
    · obtain rfl : i = ls.length := by omega
      have hN : a = sumL ls := by rw [HA.out.1, accL_end]
      have HF := Lib.hid (show joinOf ls = (mk (joinL ls), 0) by
        unfold joinOf
        rw [if_pos (List.all_eq_true.2 fun l hl => HA.out.2 l (by rw [List.take_length]; exact hl))])
      have HN := Lib.hid hN
      have HA3 := Lib.hid (show a ≤ 140737488355328 by rw [hN]; exact HS.out)
      have hmk := fun (w : World) => made_full w a (by have := HA3.out; omega)
      have ha63 : a ≤ 2 ^ 63 - 1 := by have := HA3.out; omega
      clear HA hN
      go_wp2
      have hI0 : JoinW w.heap.size a ls 0 (w.alloc (.cells (madeCells #[Value.int IntKind.u8 0] a) 5)) := ⟨_, heap_alloc_new _ _, by simp [madeCells], by simp [joinL, sumL]⟩
      have HI0 := Lib.hid hI0
      have HB0 := Lib.hid ((Below.refl w.heap.size w).alloc (Nat.le_refl _) (.cells (madeCells #[Value.int IntKind.u8 0] a) 5))
      clear hI0 hmk
      go_loopw [8, 31] (fun pv iv wr => ∃ (i p : Nat), i ≤ ls.length ∧ iv = .int .i64 i ∧ pv = .int .i64 p ∧ p ≤ a ∧ Hid (p = sumL (ls.take i)) ∧ Hid (JoinW w.heap.size a ls i wr) ∧ Hid (Below w.heap.size w wr)) (fun _ iv _ => ls.length - (intOf iv).toNat)
      case atStart => exact ⟨0, 0, by omega, rfl, rfl, by omega, Lib.hid (by simp [sumL]), HI0, HB0⟩
      case round =>
        clear HI0 HB0
        obtain ⟨i, p, hi, rfl, rfl, hpa, HP, HJ, HB⟩ := hrel
        by_cases hlt : i < ls.length
        · obtain ⟨b, o, rfl, hb, hC1⟩ := HC.out (by omega)
          have c1 : wr.cell? ⟨b, o + i, none⟩ = some (.string ls[i]) := by rw [HB.out.cell hb]; exact hC1 i hlt
          clear hC1
          have hst := sumL_take ls i hlt
          have hle : sumL (ls.take (i + 1)) ≤ a := by rw [HN.out]; exact sumL_le ls (i + 1)
          have hjt := joinL_take ls i hlt
          obtain ⟨l, hl⟩ : ∃ l, l = ls[i] := ⟨_, rfl⟩
          rw [← hl] at c1 hst hjt
          have hroom : p + l.size + 1 ≤ a := by rw [HP.out]; omega
          have HJT := Lib.hid hjt
          have HST := Lib.hid hst
          clear hl hjt hst hle
          obtain ⟨C, hC, hCs, hCt⟩ := HJ.out
          have hcp := run_copy_at (P := Try.prog) wr 52 9 3 5 w.heap.size p (a - p) (a - p) l C 5 Try.underlying52 (by kernel_rfl) hC (by omega) (by omega) (by have := HA3.out; omega)
          have hW2 := setRow_heap wr w.heap.size C (C.toList.take p ++ l.data.toList.map bv ++ C.toList.drop (p + l.size)).toArray 5 _ hC
          have hsz2 : (C.toList.take p ++ l.data.toList.map bv ++ C.toList.drop (p + l.size)).toArray.size = a := by
            have h1 : l.data.toList.length = l.size := by simp
            simp only [List.size_toArray, List.length_append, List.length_take, List.length_drop, List.length_map, Array.length_toList, hCs, h1]; omega
          have hJ3 := joinW_step (v := a) HP.out HST.out HJT.out hCs hCt hroom hW2 hsz2
          have hB3 : Below w.heap.size w (wr.setRow w.heap.size (C.toList.take p ++ l.data.toList.map bv ++ C.toList.drop (p + l.size)).toArray) := below_setRow HB.out (Nat.le_refl _) _
          generalize wr.setRow w.heap.size (C.toList.take p ++ l.data.toList.map bv ++ C.toList.drop (p + l.size)).toArray = w2 at hcp hW2 hJ3 hB3
          obtain ⟨x0, hc0⟩ : ∃ x0, w2.cell? ⟨w.heap.size, p + l.size, none⟩ = some x0 := ⟨_, cell_of_block hW2 (by rw [hsz2]; omega)⟩
          have hf0 := frozen_of_block (off := p + l.size) hW2
          have HJ3 := Lib.hid hJ3
          have HB3 := Lib.hid hB3
          have HP2 := Lib.hid (show p + l.size + 1 = sumL (ls.take (i + 1)) by rw [HST.out, HP.out]; omega)
          have b1 : 0 ≤ (p : Int) := by omega
          have b2 : (p : Int) ≤ (a : Int) := by omega
          have b3 : ¬ (a = p) := by omega
          have b4 : ((p + l.size : Nat) : Int) < (a : Int) := by omega
          clear hC hCs hCt hW2 hsz2 hJ3 hB3
          go_wp2_with (at_builtin; refine Lib.wpList_copy_run _ rfl _ _ 52 9 rfl _ _ rfl rfl hcp ?_)
          exact ⟨⟨i + 1, p + l.size + 1, by omega, by go_num, by go_num, hroom, HP2, HJ3, Lib.hid (HB3.out.setCell (Nat.le_refl _) _)⟩, by simp [intOf]; omega⟩
        · obtain rfl : i = ls.length := by omega
          obtain ⟨C, hC, hCs, hCt⟩ := HJ.out
          rw [List.take_length] at hCt
          have hrs := row_string (cap := a) hC ((joinL_len ls).trans HN.out.symm) (by rw [HN.out]; exact hCt)
          clear hC hCs hCt
          go_wp2
          go_ret2
          exact ⟨by rw [HF.out]; rfl, HB.out⟩

end Go.Proofs.Ytaghjiffmondjaa
