import Derived.Test.YtblkehdpenfhjaaGreatDoorR3
import Derived.DeepKeys4
set_option linter.unnecessarySimpa false
set_option linter.unusedVariables false
set_option linter.unusedSimpArgs false
/-
  Package book: Key.
-/
set_option linter.unusedVariables false
set_option linter.unusedSimpArgs false
namespace Go.Proofs.YtblkehdpenfhjaaGreatDoor
open Go.RowKit

def keyL (space kind n : Nat) : List UInt8 := 66 :: beL 8 space ++ [UInt8.ofNat kind] ++ beL 8 n
def keyB (space kind n : Nat) : ByteArray := mk (keyL space kind n)
theorem keyB_size (space kind n : Nat) : (keyB space kind n).size = 18 := by unfold keyB keyL; rw [mk_size]; simp [beL_len]
set_option maxHeartbeats 4000000 in
set_option maxRecDepth 100000 in
theorem key_calls (space kind n : Nat) (hs : space < 9223372036854775808) (hk1 : 1 ≤ kind) (hk2 : kind ≤ 255) (hn : n < 9223372036854775808) (w : World) :
    Calls Tryz.prog 138 #[.int .i64 space, .int .i64 kind, .int .i64 n] w fun r w' => r = .returned (.tuple #[.string (keyB space kind n), .int .i64 0]) ∧ Below w.heap.size w w' := by
  have hw : IntKind.u64.wrap (n : Int) = (n : Int) := by simp [IntKind.wrap, IntKind.signed, IntKind.bits]; omega
  have hw8 : IntKind.u8.wrap (kind : Int) = (kind : Int) := by simp [IntKind.wrap, IntKind.signed, IntKind.bits]; omega
  have n1 : ¬ ((kind : Int) < 1) := by omega
  have n2 : ¬ (255 < (kind : Int)) := by omega
  have HN := Lib.hid hn
  have HP := Lib.hid fun w => prefix_calls space hs w
  have hkb : bv (UInt8.ofNat kind) = .int .u8 (kind : Int) := by rw [bv_ofNat, Nat.mod_eq_of_lt (by omega)]
  have HKB := Lib.hid hkb
  clear hn hs hkb
  obtain ⟨p, hp⟩ : ∃ p, p = mk (66 :: beL 8 space) := ⟨_, rfl⟩
  have sp : p.size = 9 := by rw [hp, mk_size]; simp [beL_len]
  rw [← hp] at HP
  obtain ⟨y, hy⟩ : ∃ y, y = mk (beL 8 n) := ⟨_, rfl⟩
  have sy : y.size = 8 := by rw [hy, mk_size, beL_len]
  obtain ⟨b, hb⟩ : ∃ b, b = mk [UInt8.ofNat kind] := ⟨_, rfl⟩
  have sb : b.size = 1 := by rw [hb, mk_size]; rfl
  obtain ⟨pb, hpb⟩ : ∃ q, q = p ++ b := ⟨_, rfl⟩
  have spb : pb.size = 10 := by rw [hpb, ByteArray.size_append]; omega
  obtain ⟨k, hk⟩ : ∃ k, k = keyB space kind n := ⟨_, rfl⟩
  have hky : pb ++ y = k := by
    rw [hk, hpb, hp, hb, hy]
    unfold keyB keyL
    rw [mk_app, mk_app]
  have p1 : ∀ w, (Op.stringOp .add p b).run Tryz.prog w = .ok (.string pb) w := fun w => by rw [hpb]; exact run_string_add_sum w p b (by omega)
  have p2 : ∀ w, (Op.stringOp .add pb y).run Tryz.prog w = .ok (.string k) w := fun w => by rw [← hky]; exact run_string_add_sum w pb y (by omega)
  have HY := Lib.hid hy
  have HCV := Lib.hid (show ∀ (w : World) (g : Nat), w.heap[g]? = some (.cells #[.int .u8 (kind : Int)] 5 (0, 0)) → _ from fun w g hg => row_string (w := w) (v := .slice (some ⟨g, 0, none⟩) 1 1) (xs := [UInt8.ofNat kind]) (F := fun _ => True)
    (.inr ⟨g, 1, #[.int .u8 (kind : Int)], rfl, trivial, hg, Nat.le_refl _, by unfold maxLen; decide, rfl, by simp only [List.map_cons, List.map_nil, HKB.out]; rfl⟩))
  rw [← hb] at HCV
  rw [← hk]
  clear hy hk hp hb hpb hky sp sy sb spb
  go_enter Tryz.func138, Tryz.ntmps138
  go_wp2_with fail
  refine (putBE8_calls n (by have := HN.out; omega) w).mono ?_
  rintro r w1 ⟨rfl, hb1⟩
  rw [← HY.out]
  have HB1 := Lib.hid hb1
  clear hb1
  go_wp2_with fail
  refine wp_region_tree (fun _ => True) (.hd 0 (.hd 2 (.hd 3 (.hd 7 (.fk 1 (.fk 4 (.fk 5 (.hd 6 (.hd 8 (.hd 9 (.hd 10 .nil)))) .no) .no) (.fk 4 (.fk 1 (.fk 5 (.hd 6 (.hd 8 (.hd 9 (.hd 10 .nil)))) .no) (.fk 5 (.fk 1 (.hd 6 (.hd 8 (.hd 9 (.hd 10 .nil)))) .no) .no)) .no)))))) (by kernel_rfl) (by kernel_rfl) (fun _ _ d _ _ h => by cases d <;> exact h) trivial ?_
  iterate 4
    refine hdT ?_ ?_ (by rfl) (by rfl) (fun w' _ => ?_) ?_ ?_
    rotate_left 2
    focus (go_simp; exact rfl)
    focus (go_simp; exact rfl)
  refine fkT (by rfl) (by rfl) (fun K hK => ?_) ?_
  · go_wp2_with fail
    refine (HP.out _).mono ?_
    rintro r w2 ⟨rfl, hb2⟩
    refine hK _ _ trivial ?_
    clear hK
    have HB2 := Lib.hid ((HB1.out.drew).trans (hb2.mono HB1.out.size))
    clear hb2
    obtain ⟨w3, hw3⟩ : ∃ w3, w3 = w2.alloc (.cells #[.int .u8 (kind : Int)] 5) := ⟨_, rfl⟩
    have hcv := HCV.out w3 w2.heap.size (by rw [hw3]; exact (MapKept.heap_alloc w2 _).1)
    have HBL := Lib.hid (show Below w.heap.size w w3 by rw [hw3]; exact HB2.out.alloc HB2.out.size _)
    refine fkT (by rfl) (by rfl) (fun K hK => ?_) noT
    go_wp2_with fail
    refine hK _ _ trivial ?_
    clear hK
    rw [← hw3]
    clear hw3
    refine fkT (by rfl) (by rfl) (fun K hK => ?_) noT
    go_wp2_with fail
    refine hK _ _ trivial ?_
    clear hK
    iterate 4
      refine hdT ?_ ?_ (by rfl) (by rfl) (fun w' _ => ?_) ?_ ?_
      rotate_left 2
      focus (go_simp; exact rfl)
      focus (go_simp; exact rfl)
    refine nilT ?_
    go_wp2
    go_ret2
    exact ⟨rfl, HBL.out⟩
  · refine fkT (by rfl) (by rfl) (fun K hK => ?_) noT
    obtain ⟨w2, hw2⟩ : ∃ w2, w2 = (w1.alloc (.cells #[.int .u8 (kind : Int)] 5)).drew := ⟨_, rfl⟩
    have hcell : w2.heap[w1.heap.size]? = some (.cells #[.int .u8 (kind : Int)] 5 (0, 0)) := by rw [hw2]; exact (MapKept.heap_alloc w1 _).1
    have HCELL := Lib.hid hcell
    have HB2 := Lib.hid (show Below w.heap.size w w2 by rw [hw2]; exact (HB1.out.alloc HB1.out.size _).drew)
    go_wp2_with fail
    refine hK _ _ trivial ?_
    clear hK
    rw [← hw2]
    clear hw2 hcell
    obtain ⟨g, hg⟩ : ∃ g, g = w1.heap.size := ⟨_, rfl⟩
    rw [← hg] at HCELL ⊢
    clear hg
    refine fkT (by rfl) (by rfl) (fun K hK => ?_) ?_
    · go_wp2_with fail
      refine (HP.out _).mono ?_
      rintro r w3 ⟨rfl, hb3⟩
      refine hK _ _ trivial ?_
      clear hK
      have hcv := HCV.out w3 g ((hb3.block _ (block_lt HCELL.out)).trans HCELL.out)
      have HBL := Lib.hid (HB2.out.trans (hb3.mono HB2.out.size))
      clear hb3
      refine fkT (by rfl) (by rfl) (fun K hK => ?_) noT
      go_wp2_with fail
      refine hK _ _ trivial ?_
      clear hK
      iterate 4
        refine hdT ?_ ?_ (by rfl) (by rfl) (fun w' _ => ?_) ?_ ?_
        rotate_left 2
        focus (go_simp; exact rfl)
        focus (go_simp; exact rfl)
      refine nilT ?_
      go_wp2
      go_ret2
      exact ⟨rfl, HBL.out⟩
    · refine fkT (by rfl) (by rfl) (fun K hK => ?_) noT
      have hcv := HCV.out w2 g HCELL.out
      go_wp2_with fail
      refine hK _ _ trivial ?_
      clear hK
      refine fkT (by rfl) (by rfl) (fun K hK => ?_) noT
      go_wp2_with fail
      refine (HP.out _).mono ?_
      rintro r w3 ⟨rfl, hb3⟩
      refine hK _ _ trivial ?_
      clear hK
      have HBL := Lib.hid (HB2.out.trans (hb3.mono HB2.out.size))
      clear hb3
      iterate 4
        refine hdT ?_ ?_ (by rfl) (by rfl) (fun w' _ => ?_) ?_ ?_
        rotate_left 2
        focus (go_simp; exact rfl)
        focus (go_simp; exact rfl)
      refine nilT ?_
      go_wp2
      go_ret2
      exact ⟨rfl, HBL.out⟩
end Go.Proofs.YtblkehdpenfhjaaGreatDoor
/-
  Plain: the rows of a shard, the nodes of a tree, what they cost. No program in sight.
-/
set_option linter.unusedVariables false
set_option linter.unusedSimpArgs false
namespace Go.Proofs.YtblkehdpenfhjaaGreatDoor

def leafH (W : Int) (x : ByteArray) : ByteArray := mk (hashF W (0 :: x.data.toList))
def nodeH (W : Int) (x y : ByteArray) : ByteArray := mk (hashF W (1 :: (x.data.toList ++ y.data.toList)))
theorem leafH_size (W : Int) (x : ByteArray) : (leafH W x).size ≤ 32 := by unfold leafH; rw [mk_size]; exact hashF_len _ _
theorem nodeH_size (W : Int) (x y : ByteArray) : (nodeH W x y).size ≤ 32 := by unfold nodeH; rw [mk_size]; exact hashF_len _ _
def upRow (W : Int) : List ByteArray → List ByteArray
  | x :: y :: r => nodeH W x y :: upRow W r
  | _ => []
theorem upRow_len (W : Int) : ∀ l : List ByteArray, (upRow W l).length = l.length / 2
  | [] => rfl
  | [_] => by simp [upRow]
  | x :: y :: r => by simp [upRow, upRow_len W r]; omega
theorem upRow_at (W : Int) : ∀ (l : List ByteArray) (i : Nat) (x y : ByteArray), l[2 * i]? = some x → l[2 * i + 1]? = some y → (upRow W l)[i]? = some (nodeH W x y)
  | [], i, x, y, h, _ => by simp at h
  | [a], i, x, y, h, h2 => by simp at h2
  | a :: b :: r, 0, x, y, h, h2 => by simp at h h2; subst h h2; rfl
  | a :: b :: r, i + 1, x, y, h, h2 => by
    have e1 : 2 * (i + 1) = 2 * i + 1 + 1 := by omega
    have e2 : 2 * (i + 1) + 1 = 2 * i + 1 + 1 + 1 := by omega
    rw [e1, List.getElem?_cons_succ, List.getElem?_cons_succ] at h
    rw [e2, List.getElem?_cons_succ, List.getElem?_cons_succ] at h2
    show (upRow W r)[i]? = _
    exact upRow_at W r i x y h h2
theorem upRow_take (W : Int) (l : List ByteArray) (i : Nat) (h : 2 * i + 1 < l.length) : (upRow W l).take (i + 1) = (upRow W l).take i ++ [nodeH W (l[2 * i]'(by omega)) l[2 * i + 1]] := by
  have hl : i < (upRow W l).length := by rw [upRow_len]; omega
  rw [List.take_succ_eq_append_getElem hl]
  congr 2
  have := upRow_at W l i _ _ (List.getElem?_eq_getElem (by omega)) (List.getElem?_eq_getElem h)
  rw [List.getElem?_eq_getElem hl] at this
  exact Option.some.inj this
/-- the rows above a row -/
def lvl (W : Int) (row : List ByteArray) : Nat → List ByteArray
  | 0 => row
  | k + 1 => upRow W (lvl W row k)
theorem lvl_len (W : Int) (row : List ByteArray) : ∀ k, (lvl W row k).length = row.length / 2 ^ k
  | 0 => by simp [lvl]
  | k + 1 => by rw [lvl, upRow_len, lvl_len, Nat.div_div_eq_div_mul, ← Nat.pow_succ]
/-- the node of a level and an index over a list of leaves -/
def nodeF (W : Int) (L : List ByteArray) : Nat → Nat → ByteArray
  | 0, i => leafH W (L.getD i ⟨#[]⟩)
  | l + 1, i => nodeH W (nodeF W L l (2 * i)) (nodeF W L l (2 * i + 1))
theorem nodeF_size (W : Int) (L : List ByteArray) : ∀ l i, (nodeF W L l i).size ≤ 32
  | 0, _ => leafH_size _ _
  | _ + 1, _ => nodeH_size _ _ _
theorem lvl_at (W : Int) (L : List ByteArray) : ∀ k i, (i + 1) * 2 ^ k ≤ L.length → (lvl W (L.map (leafH W)) k)[i]? = some (nodeF W L k i)
  | 0, i, h => by
    have hi : i < L.length := by omega
    simp [lvl, nodeF, hi]
  | k + 1, i, h => by
    have h2 : (2 * i + 1 + 1) * 2 ^ k ≤ L.length := by rw [Nat.pow_succ] at h; calc _ = (i + 1) * (2 ^ k * 2) := by rw [show 2 * i + 1 + 1 = (i + 1) * 2 by omega, Nat.mul_assoc, Nat.mul_comm 2]
      _ ≤ _ := h
    have h1 : (2 * i + 1) * 2 ^ k ≤ L.length := Nat.le_trans (Nat.mul_le_mul_right _ (by omega)) h2
    exact upRow_at W _ i _ _ (lvl_at W L k (2 * i) h1) (lvl_at W L k (2 * i + 1) h2)
def seg (L : List ByteArray) (o n : Nat) : List ByteArray := (L.drop o).take n
theorem seg_len (L : List ByteArray) (o n : Nat) : (seg L o n).length = min n (L.length - o) := by simp [seg]
theorem seg_getD (L : List ByteArray) (o n i : Nat) (h : i < n) : (seg L o n).getD i ⟨#[]⟩ = L.getD (o + i) ⟨#[]⟩ := by
  simp [seg, List.getD_eq_getElem?_getD, List.getElem?_take, h]
theorem nodeF_seg (W : Int) (L : List ByteArray) (n : Nat) : ∀ k q i, (i + 1) * 2 ^ k ≤ n → nodeF W (seg L (q * 2 ^ k) n) k i = nodeF W L k (q + i)
  | 0, q, i, h => by
    unfold nodeF
    rw [seg_getD _ _ _ _ (by omega)]
    simp
  | k + 1, q, i, h => by
    have h2 : (2 * i + 1 + 1) * 2 ^ k ≤ n := by rw [Nat.pow_succ] at h; calc _ = (i + 1) * (2 ^ k * 2) := by rw [show 2 * i + 1 + 1 = (i + 1) * 2 by omega, Nat.mul_assoc, Nat.mul_comm 2]
      _ ≤ _ := h
    have h1 : (2 * i + 1) * 2 ^ k ≤ n := Nat.le_trans (Nat.mul_le_mul_right _ (by omega)) h2
    have e : q * 2 ^ (k + 1) = (2 * q) * 2 ^ k := by rw [Nat.pow_succ, Nat.mul_comm 2 q, Nat.mul_assoc, Nat.mul_comm 2]
    show nodeH W _ _ = nodeH W _ _
    rw [e, nodeF_seg W L n k (2 * q) (2 * i) h1, nodeF_seg W L n k (2 * q) (2 * i + 1) h2]
    rw [show 2 * q + 2 * i = 2 * (q + i) by omega, show 2 * q + (2 * i + 1) = 2 * (q + i) + 1 by omega]
theorem nodeF_app (W : Int) (L M : List ByteArray) : ∀ k i, (i + 1) * 2 ^ k ≤ L.length → nodeF W (L ++ M) k i = nodeF W L k i
  | 0, i, h => by
    have hi : i < L.length := by omega
    simp [nodeF, List.getD_eq_getElem?_getD, List.getElem?_append_left hi]
  | k + 1, i, h => by
    have h2 : (2 * i + 1 + 1) * 2 ^ k ≤ L.length := by rw [Nat.pow_succ] at h; calc _ = (i + 1) * (2 ^ k * 2) := by rw [show 2 * i + 1 + 1 = (i + 1) * 2 by omega, Nat.mul_assoc, Nat.mul_comm 2]
      _ ≤ _ := h
    have h1 : (2 * i + 1) * 2 ^ k ≤ L.length := Nat.le_trans (Nat.mul_le_mul_right _ (by omega)) h2
    show nodeH W _ _ = nodeH W _ _
    rw [nodeF_app W L M k _ h1, nodeF_app W L M k _ h2]
/-- sums -/
def sumN (f : Nat → Nat) : Nat → Nat
  | 0 => 0
  | n + 1 => sumN f n + f n
theorem sumN_congr {f g : Nat → Nat} : ∀ n, (∀ k, k < n → f k = g k) → sumN f n = sumN g n
  | 0, _ => rfl
  | n + 1, h => by rw [sumN, sumN, sumN_congr n (fun k hk => h k (by omega)), h n (by omega)]
theorem sumN_le {f g : Nat → Nat} : ∀ n, (∀ k, k < n → f k ≤ g k) → sumN f n ≤ sumN g n
  | 0, _ => Nat.le_refl _
  | n + 1, h => Nat.add_le_add (sumN_le n (fun k hk => h k (by omega))) (h n (by omega))
theorem sumN_swap {f g : Nat → Nat} {j : Nat} : ∀ n, j < n → (∀ k, k < n → k ≠ j → f k = g k) → sumN f n + g j = sumN g n + f j
  | 0, h, _ => by omega
  | n + 1, hj, h => by
    by_cases e : j = n
    · subst e
      rw [sumN, sumN, sumN_congr (f := f) (g := g) j (fun k hk => h k (by omega) (by omega))]
      omega
    · have := sumN_swap (f := f) (g := g) n (by omega) (fun k hk hne => h k (by omega) hne)
      rw [sumN, sumN, h n (by omega) (fun e' => e e'.symm)]
      omega
theorem sumN_zero {f : Nat → Nat} : ∀ n, (∀ k, k < n → f k = 0) → sumN f n = 0
  | 0, _ => rfl
  | n + 1, h => by rw [sumN, sumN_zero n (fun k hk => h k (by omega)), h n (by omega)]
theorem sum_halves (m : Nat) : ∀ T, sumN (fun k => m / 2 ^ (k + 1)) T + m / 2 ^ T ≤ m
  | 0 => by simp [sumN]
  | T + 1 => by
    have h := sum_halves m T
    have e : m / 2 ^ (T + 1) = m / 2 ^ T / 2 := by rw [Nat.pow_succ, Nat.div_div_eq_div_mul]
    simp only [sumN]
    rw [e]
    omega
/-- what it costs to hash a shard of m leaves -/
def costOf (m : Nat) : Nat := sumN (fun k => m / 2 ^ (k + 1)) 64
theorem costOf_le (m : Nat) : costOf m ≤ m := by have := sum_halves m 64; unfold costOf; omega
theorem costOf_upto (m K : Nat) (hK : K ≤ 64) (h : m / 2 ^ K ≤ 1) : sumN (fun k => m / 2 ^ (k + 1)) K = costOf m := by
  have hz : ∀ j, m / 2 ^ (K + j + 1) = 0 := fun j => by
    have e : m / 2 ^ (K + j + 1) = m / 2 ^ K / 2 ^ (j + 1) := by rw [Nat.div_div_eq_div_mul, ← Nat.pow_add]; rfl
    rw [e]
    have := Nat.one_lt_two_pow (n := j + 1) (by omega)
    exact Nat.div_eq_of_lt (by omega)
  have : ∀ j, sumN (fun k => m / 2 ^ (k + 1)) (K + j) = sumN (fun k => m / 2 ^ (k + 1)) K := fun j => by
    induction j with
    | zero => rfl
    | succ j ih => rw [← Nat.add_assoc, sumN, ih, hz]; rfl
  have h2 := this (64 - K)
  rw [show K + (64 - K) = 64 by omega] at h2
  exact h2.symm
/-- the pieces of a range from the left -/
def cov : Nat → Nat → Nat → List (Nat × Nat)
  | 0, _, _ => []
  | k + 1, p, r => if 2 ^ k ≤ r then (k, p / 2 ^ k) :: cov k (p + 2 ^ k) (r - 2 ^ k) else cov k p r
def cover (n : Nat) : List (Nat × Nat) := cov 63 0 n
theorem cov_len : ∀ k p r, (cov k p r).length ≤ k
  | 0, _, _ => Nat.le_refl _
  | k + 1, p, r => by
    unfold cov
    split
    · have := cov_len k (p + 2 ^ k) (r - 2 ^ k); simp; omega
    · have := cov_len k p r; omega
theorem cov_ok : ∀ k p r, 2 ^ k ∣ p → r < 2 ^ k → ∀ a ∈ cov k p r, a.1 < k ∧ (a.2 + 1) * 2 ^ a.1 ≤ p + r
  | 0, _, _, _, _, a, h => by simp [cov] at h
  | k + 1, p, r, hp, hr, a, h => by
    have hd : 2 ^ k ∣ p := Nat.dvd_trans (Nat.pow_dvd_pow 2 (by omega)) hp
    unfold cov at h
    split at h
    · rename_i hk
      rcases List.mem_cons.1 h with rfl | h
      · refine ⟨by simp, ?_⟩
        obtain ⟨q, rfl⟩ := hd
        simp only
        rw [Nat.mul_div_cancel_left _ (Nat.two_pow_pos k), Nat.add_mul, Nat.mul_comm]
        omega
      · have := cov_ok k (p + 2 ^ k) (r - 2 ^ k) ((Nat.dvd_add_iff_right hd).1 (Nat.dvd_refl _)) (by rw [Nat.pow_succ] at hr; omega) a h
        omega
    · have := cov_ok k p r hd (by omega) a h
      omega
theorem cover_ok (n : Nat) (hn : n < 9223372036854775808) : ∀ a ∈ cover n, a.1 ≤ 62 ∧ (a.2 + 1) * 2 ^ a.1 ≤ n := fun a h => by
  have := cov_ok 63 0 n (Nat.dvd_zero _) (by simpa using hn) a h
  omega
theorem cover_len (n : Nat) : (cover n).length ≤ 63 := cov_len _ _ _
/-- the root above peaks -/
def foldF (W : Int) : List ByteArray → ByteArray
  | [] => mk (hashF W [])
  | [x] => x
  | x :: r => nodeH W x (foldF W r)
theorem foldF_cons (W : Int) (x : ByteArray) (r : List ByteArray) (h : r ≠ []) : foldF W (x :: r) = nodeH W x (foldF W r) := by
  cases r with
  | nil => exact absurd rfl h
  | cons y r => rfl
theorem foldF_size (W : Int) : ∀ l : List ByteArray, (∀ x ∈ l, x.size ≤ 32) → (foldF W l).size ≤ 32
  | [], _ => by unfold foldF; rw [mk_size]; exact hashF_len _ _
  | [x], h => h x (by simp)
  | x :: y :: r, h => nodeH_size _ _ _
/-- the root of a list of leaves -/
def rootF (W : Int) (L : List ByteArray) (n : Nat) : ByteArray := foldF W ((cover n).map fun a => nodeF W L a.1 a.2)
end Go.Proofs.YtblkehdpenfhjaaGreatDoor
/-
  Records as a list of pairs; a store of records; Put.
-/
set_option linter.unusedVariables false
set_option linter.unusedSimpArgs false
namespace Go.Proofs.YtblkehdpenfhjaaGreatDoor
open Go.RowKit Go.Maps Go.ChangeMaps Go.MapKept

abbrev Recs := List (ByteArray × ByteArray)
def litK (k : ByteArray) : Lit := .string k.data.toList
theorem litK_inj {a b : ByteArray} (h : litK a = litK b) : a = b := by
  unfold litK at h
  injection h with h
  exact bytes_ext h
def costK (k v : ByteArray) : Nat := k.size + v.size + 16
def getR : Recs → ByteArray → Option ByteArray
  | [], _ => none
  | (k, v) :: r, x => if k = x then some v else getR r x
def putR : Recs → ByteArray → ByteArray → Recs
  | [], k, v => [(k, v)]
  | (a, u) :: r, k, v => if a = k then (k, v) :: r else (a, u) :: putR r k v
def usedR : Recs → Nat
  | [] => 0
  | (k, v) :: r => costK k v + usedR r
open Classical in
noncomputable def recF (r : Recs) : Lit → Option Value := fun l => match r with
  | [] => none
  | (k, v) :: r => if l = litK k then some (.string v) else recF r l
theorem recF_at (r : Recs) (k : ByteArray) : recF r (litK k) = (getR r k).map Value.string := by
  induction r with
  | nil => rfl
  | cons p r ih =>
    obtain ⟨a, u⟩ := p
    unfold recF getR
    by_cases h : a = k
    · subst h; simp
    · rw [if_neg (fun e => h (litK_inj e).symm), if_neg h, ih]
theorem recF_put (r : Recs) (k v : ByteArray) : recF (putR r k v) = updF (recF r) (litK k) (some (.string v)) := by
  funext l
  by_cases hl : l = litK k
  · subst hl
    rw [updF_same, recF_at]
    have : getR (putR r k v) k = some v := by
      induction r with
      | nil => simp [putR, getR]
      | cons p r ih =>
        obtain ⟨a, u⟩ := p
        unfold putR
        by_cases h : a = k
        · rw [if_pos h]; simp [getR]
        · rw [if_neg h]; unfold getR; rw [if_neg h]; exact ih
    rw [this]
    rfl
  · rw [updF_other _ _ hl]
    induction r with
    | nil =>
      unfold putR recF
      rw [if_neg hl]
      rfl
    | cons p r ih =>
      obtain ⟨a, u⟩ := p
      unfold putR
      by_cases h : a = k
      · rw [if_pos h]
        subst h
        unfold recF
        rw [if_neg hl]
        simp [hl]
      · rw [if_neg h]
        unfold recF
        rw [ih]
theorem getR_put_same (r : Recs) (k v : ByteArray) : getR (putR r k v) k = some v := by
  induction r with
  | nil => simp [putR, getR]
  | cons p r ih =>
    obtain ⟨a, u⟩ := p
    unfold putR
    by_cases h : a = k
    · rw [if_pos h]; simp [getR]
    · rw [if_neg h]; unfold getR; rw [if_neg h]; exact ih
theorem getR_put_other (r : Recs) {k x : ByteArray} (v : ByteArray) (h : x ≠ k) : getR (putR r k v) x = getR r x := by
  induction r with
  | nil => simp [putR, getR, Ne.symm h]
  | cons p r ih =>
    obtain ⟨a, u⟩ := p
    unfold putR
    by_cases h2 : a = k
    · rw [if_pos h2]; subst h2; simp [getR, Ne.symm h]
    · rw [if_neg h2]; unfold getR; rw [ih]
def oldR (k : ByteArray) : Option ByteArray → Nat
  | some u => costK k u
  | none => 0
theorem usedR_put (r : Recs) (k v : ByteArray) : usedR (putR r k v) + oldR k (getR r k) = usedR r + costK k v := by
  induction r with
  | nil => simp [putR, usedR, getR, oldR]
  | cons p r ih =>
    obtain ⟨a, u⟩ := p
    unfold putR getR
    by_cases h : a = k
    · subst h; simp [usedR, oldR]; omega
    · rw [if_neg h, if_neg h]; simp only [usedR]; omega
theorem oldR_le (r : Recs) (k : ByteArray) : oldR k (getR r k) ≤ usedR r := by
  induction r with
  | nil => simp [getR, oldR, usedR]
  | cons p r ih =>
    obtain ⟨a, u⟩ := p
    unfold getR
    by_cases h : a = k
    · subst h; simp [oldR, usedR]
    · rw [if_neg h]; simp only [usedR]; omega
theorem putR_length (r : Recs) (k v : ByteArray) : (putR r k v).length = grow (recF r (litK k)) r.length := by
  rw [recF_at]
  unfold grow
  induction r with
  | nil => simp [putR, getR]
  | cons p r ih =>
    obtain ⟨a, u⟩ := p
    unfold putR getR
    by_cases h : a = k
    · subst h; simp
    · rw [if_neg h, if_neg h]
      simp only [List.length_cons, ih]
      split <;> rfl
def SmallR (r : Recs) : Prop := ∀ k u, getR r k = some u → u.size ≤ 1048576
theorem SmallR.put {r : Recs} (h : SmallR r) (k v : ByteArray) (hv : v.size ≤ 1048576) : SmallR (putR r k v) := fun x u hx => by
  by_cases e : x = k
  · subst e; rw [getR_put_same] at hx; injection hx with hx; subst hx; exact hv
  · rw [getR_put_other _ _ e] at hx; exact h x u hx
/-- a store in working order: its records, its disk, how many writes are pending, its age; F: the blocks that are its own -/
structure StoreAt (w : World) (sb : Nat) (room : Nat) (now disk : Recs) (log : List Value) (age : Nat) (F : Nat → Prop) : Prop where
  ex : ∃ mb kb lv, StoreIs w sb mb kb room (recF now) (recF disk) now.length disk.length lv (log.length / 3) log (usedR now) false 0 age ∧ kb ≠ mb ∧ F sb ∧ F mb ∧ F kb ∧ ∀ b, lv.ownBlock = some b → F b
  small : SmallR now
  used : usedR now ≤ room
  room : room ≤ 1073741824
  three : log.length % 3 = 0
  logs : log.length ≤ 3000000000
  many : now.length ≤ 1000000000
/-- w' is w but for blocks of F; what is of F' and was there is of F -/
structure Goes (F F' : Nat → Prop) (w w' : World) : Prop where
  turn : Turn F w w'
  own : ∀ b, F' b → F b ∨ w.heap.size ≤ b
  low : ∀ b, F' b → b < w'.heap.size
theorem Goes.refl {F : Nat → Prop} {w : World} (h : ∀ b, F b → b < w.heap.size) : Goes F F w w := ⟨Turn.refl _ _, fun _ h => .inl h, h⟩
theorem Goes.trans {F F' F'' : Nat → Prop} {a b c : World} (h : Goes F F' a b) (k : Goes F' F'' b c) : Goes F F'' a c :=
  ⟨h.turn.trans' k.turn h.own, fun i hi => (k.own i hi).elim (h.own i) (fun h2 => .inr (Nat.le_trans h.turn.size h2)), k.low⟩
theorem StoreAt.keep {w w' : World} {sb room : Nat} {now disk : Recs} {log : List Value} {age : Nat} {F : Nat → Prop} (h : StoreAt w sb room now disk log age F) (hk : ∀ b, b < w.heap.size → F b → w'.heap[b]? = w.heap[b]?) : StoreAt w' sb room now disk log age F := by
  obtain ⟨⟨mb, kb, lv, h1, h2, h3, h4, h5, h6⟩, r1, r2, r3, r4, r5, r6⟩ := h
  refine ⟨⟨mb, kb, lv, ⟨(hk sb h1.lt h3).trans h1.blk, h1.now.keep (hk mb h1.now.lt h4), h1.disk.keep (hk kb h1.disk.lt h5), ?_⟩, h2, h3, h4, h5, h6⟩, r1, r2, r3, r4, r5, r6⟩
  obtain ⟨q1, q2⟩ := h1.own
  refine ⟨q1, ?_⟩
  rcases q2 with q2 | ⟨g, cap, cur, e1, e2, e3, e4⟩
  · exact .inl q2
  · exact .inr ⟨g, cap, cur, e1, e2, (hk g (block_lt e3) (h6 g (by rw [e1]; rfl))).trans e3, e4⟩
theorem StoreAt.mono {w : World} {sb room : Nat} {now disk : Recs} {log : List Value} {age : Nat} {F G : Nat → Prop} (h : StoreAt w sb room now disk log age F) (hFG : ∀ b, b < w.heap.size → F b → G b) : StoreAt w sb room now disk log age G := by
  obtain ⟨⟨mb, kb, lv, h1, h2, h3, h4, h5, h6⟩, r1, r2, r3, r4, r5, r6⟩ := h
  refine ⟨⟨mb, kb, lv, h1, h2, hFG sb h1.lt h3, hFG mb h1.now.lt h4, hFG kb h1.disk.lt h5, fun b hb => hFG b ?_ (h6 b hb)⟩, r1, r2, r3, r4, r5, r6⟩
  obtain ⟨cur, hc⟩ := own_block h1.own hb
  exact block_lt hc
theorem StoreAt.below {w w' : World} {sb room : Nat} {now disk : Recs} {log : List Value} {age : Nat} {F : Nat → Prop} (h : StoreAt w sb room now disk log age F) (hb : Below w.heap.size w w') : StoreAt w' sb room now disk log age F :=
  h.keep fun b hlt _ => hb.block b hlt
theorem StoreAt.cells {w : World} {sb room : Nat} {now disk : Recs} {log : List Value} {age : Nat} {F : Nat → Prop} (h : StoreAt w sb room now disk log age F) : F sb ∧ sb < w.heap.size := by
  obtain ⟨⟨mb, kb, lv, h1, h2, h3, h4, h5, h6⟩, r⟩ := h
  exact ⟨h3, h1.lt⟩
theorem storePut_calls (k v : ByteArray) (hk1 : 1 ≤ k.size) (hk2 : k.size ≤ 64) (hv : v.size ≤ 1048576) {w : World} {sb room : Nat} {now disk : Recs} {log : List Value} {age : Nat} {F : Nat → Prop}
    (h : StoreAt w sb room now disk log age F) (hu : usedR now + costK k v ≤ room) (hl : log.length ≤ 2999999997) (hn : now.length < 1000000000) :
    Calls Tryz.prog 106 #[.pointer (some ⟨sb, 0, none⟩), .string k, .string v] w fun r w' => r = .returned (.int .i64 0) ∧
      ∃ F', StoreAt w' sb room (putR now k v) disk (log ++ [.string k, .string v, .bool false]) age F' ∧ Goes F F' w w' := by
  obtain ⟨⟨mb, kb, lv, h1, h2, h3, h4, h5, h6⟩, r1, r2, r3, r4, r5, r6⟩ := h
  have hlen : (log ++ [Value.string k, Value.string v, Value.bool false]).length = log.length + 3 := by simp
  have hdiv : (log ++ [Value.string k, Value.string v, Value.bool false]).length / 3 = log.length / 3 + 1 := by rw [hlen]; omega
  have hup := usedR_put now k v
  have hpl := putR_length now k v
  have fin : ∀ (u : Nat) (r : Ending) (w' : World), u = usedR (putR now k v) → (r = .returned (.int .i64 0) ∧
      (∃ log', StoreIs w' sb mb kb room (updF (recF now) (.string k.data.toList) (some (.string v))) (recF disk) (putR now k v).length disk.length log' (log.length / 3 + 1) (log ++ [.string k, .string v, .bool false]) u false 0 age ∧ (∀ b, log'.ownBlock = some b → lv.ownBlock = some b ∨ w.heap.size ≤ b)) ∧
      Turn (fun b => b = sb ∨ b = mb ∨ lv.ownBlock = some b) w w') → r = .returned (.int .i64 0) ∧
      ∃ F', StoreAt w' sb room (putR now k v) disk (log ++ [.string k, .string v, .bool false]) age F' ∧ Goes F F' w w' := by
    rintro u r w' hu' ⟨rfl, ⟨log', hs, hl'⟩, ht⟩
    refine ⟨rfl, fun b => (F b ∨ w.heap.size ≤ b) ∧ b < w'.heap.size, ⟨⟨mb, kb, log', ?_, h2, ⟨.inl h3, hs.lt⟩, ⟨.inl h4, hs.now.lt⟩, ⟨.inl h5, hs.disk.lt⟩, fun b hb => ⟨(hl' b hb).imp (h6 b) id, ?_⟩⟩, r1.put k v hv, ?_, r3, by rw [hlen]; omega, by rw [hlen]; omega, ?_⟩, ⟨ht.mono fun b hb => .inl ?_, fun b hb => hb.1, fun b hb => hb.2⟩⟩
    · rw [recF_put, hdiv, ← hu']
      exact hs
    · obtain ⟨cur, hc⟩ := own_block hs.own hb
      exact block_lt hc
    · omega
    · rw [hpl]
      unfold grow
      split <;> omega
    · rcases hb with rfl | rfl | hb
      · exact h3
      · exact h4
      · exact h6 b hb
  have hat : recF now (litK k) = (getR now k).map Value.string := recF_at now k
  cases hg : getR now k with
  | none =>
    rw [hg] at hat hup
    rw [hat] at hpl
    refine (put_calls k v hk1 hk2 hv h1 (by unfold maxLen; omega) (by omega) h2 hat (by unfold costK at hu; omega) r3).mono fun r w' hr => fin (usedR now + (k.size + v.size + 16)) r w' ?_ ?_
    · simp [oldR, costK] at hup; omega
    · rw [hpl]; exact hr
  | some u =>
    rw [hg] at hat hup
    rw [hat] at hpl
    have ho : costK k u ≤ usedR now := by have := oldR_le now k; rw [hg] at this; exact this
    refine (putOver_calls k v hk1 hk2 hv h1 (by unfold maxLen; omega) (by omega) h2 u hat (r1 k u hg) (by unfold costK at hu; omega) (by unfold costK at ho; omega) r2 r3).mono fun r w' hr => fin (usedR now + (k.size + v.size + 16) - (k.size + u.size + 16)) r w' ?_ ?_
    · simp only [oldR, costK] at hup; unfold costK at ho; omega
    · rw [hpl]; exact hr
end Go.Proofs.YtblkehdpenfhjaaGreatDoor
/-
  Package book: Put.
-/
set_option linter.unusedVariables false
set_option linter.unusedSimpArgs false
namespace Go.Proofs.YtblkehdpenfhjaaGreatDoor
open Go.RowKit

def frameV (kind n : Nat) (x : ByteArray) : ByteArray := mk (frameL kind n x.data.toList)
theorem frameV_size (kind n : Nat) (x : ByteArray) : (frameV kind n x).size = x.size + 18 := by
  unfold frameV frameL frameB
  rw [mk_size]
  simp [beL_len]
  omega
set_option maxHeartbeats 4000000 in
set_option maxRecDepth 100000 in
theorem bookPut_calls (space kind n : Nat) (hs : space < 9223372036854775808) (hk1 : 1 ≤ kind) (hk2 : kind ≤ 255) (hn : n < 9223372036854775808) (x : ByteArray) (hx : x.size ≤ 524288)
    {w : World} {sb room : Nat} {now disk : Recs} {log : List Value} {age : Nat} {F : Nat → Prop}
    (h : StoreAt w sb room now disk log age F) (hu : usedR now + (x.size + 52) ≤ room) (hl : log.length ≤ 2999999997) (hm : now.length < 1000000000) :
    Calls Tryz.prog 71 #[.pointer (some ⟨sb, 0, none⟩), .int .i64 space, .int .i64 kind, .int .i64 n, .string x] w fun r w' => r = .returned (.int .i64 0) ∧
      ∃ F', StoreAt w' sb room (putR now (keyB space kind n) (frameV kind n x)) disk (log ++ [.string (keyB space kind n), .string (frameV kind n x), .bool false]) age F' ∧ Goes F F' w w' := by
  have HK := Lib.hid fun w => key_calls space kind n hs hk1 hk2 hn w
  have HF := Lib.hid fun w => frame_calls kind n hk1 hk2 hn x hx w
  have HFS := Lib.hid (show (frameV kind n x).size ≤ 1048576 by rw [frameV_size]; omega)
  have HKS := Lib.hid (keyB_size space kind n)
  have HU := Lib.hid (show usedR now + costK (keyB space kind n) (frameV kind n x) ≤ room by unfold costK; rw [keyB_size, frameV_size]; omega)
  have H := Lib.hid h
  have HL := Lib.hid hl
  have HM := Lib.hid hm
  obtain ⟨k, hk⟩ : ∃ k, k = keyB space kind n := ⟨_, rfl⟩
  obtain ⟨f, hf⟩ : ∃ f, f = frameV kind n x := ⟨_, rfl⟩
  rw [show mk (frameL kind n x.data.toList) = f from hf.symm] at HF
  rw [← hk, ← hf] at HU ⊢
  rw [← hk] at HK HKS
  rw [← hf] at HFS
  clear hs hk1 hk2 hn hx h hu hl hm hk hf
  go_enter Tryz.func71, Tryz.ntmps71
  go_wp2_with fail
  refine (HK.out w).mono ?_
  rintro r w1 ⟨rfl, hb1⟩
  have HB1 := Lib.hid hb1
  clear hb1
  go_wp2_with fail
  refine (HF.out w1).mono ?_
  rintro r w2 ⟨rfl, hb2⟩
  have HB2 := Lib.hid (HB1.out.trans (hb2.mono HB1.out.size))
  clear hb2
  go_wp2_with fail
  refine (storePut_calls k f (by have := HKS.out; omega) (by have := HKS.out; omega) HFS.out (H.out.below HB2.out) HU.out HL.out HM.out).mono ?_
  rintro r w3 ⟨rfl, F', hS, hG⟩
  have HR := Lib.hid (show ∃ F', StoreAt w3 sb room (putR now k f) disk (log ++ [.string k, .string f, .bool false]) age F' ∧ Goes F F' w w3 from
    ⟨F', hS, ⟨(Turn.of_below HB2.out).trans hG.turn, fun b hb => (hG.own b hb).imp id (fun h => Nat.le_trans HB2.out.size h), hG.low⟩⟩)
  clear hS hG
  go_wp2
  go_ret
  exact ⟨rfl, HR.out⟩
end Go.Proofs.YtblkehdpenfhjaaGreatDoor
/-
  Maps with numbers as keys, and with places as keys.
-/
set_option linter.unusedVariables false
set_option linter.unusedSimpArgs false
namespace Go.Proofs.YtblkehdpenfhjaaGreatDoor
open Go.RowKit Go.Maps Go.ChangeMaps Go.MapKept

def big : Nat := 1099511627776
theorem sumN_one (f : Nat → Nat) (h : ∀ k, f k ≤ 1) : ∀ n, sumN f n ≤ n
  | 0 => Nat.le_refl _
  | n + 1 => by have := sumN_one f h n; have := h n; simp only [sumN]; omega
def bit (o : Option Value) : Nat := if o.isSome then 1 else 0
theorem bit_le (o : Option Value) : bit o ≤ 1 := by unfold bit; split <;> omega
def upd (f : Nat → Option Value) (j : Nat) (v : Option Value) : Nat → Option Value := fun k => if k = j then v else f k
theorem upd_same (f : Nat → Option Value) (j : Nat) (v : Option Value) : upd f j v j = v := if_pos rfl
theorem upd_other (f : Nat → Option Value) {j k : Nat} (v : Option Value) (h : k ≠ j) : upd f j v k = f k := if_neg h
def cntN (f : Nat → Option Value) : Nat := sumN (fun k => bit (f k)) big
theorem cntN_le (f : Nat → Option Value) : cntN f ≤ big := sumN_one _ (fun k => bit_le _) _
theorem cntN_upd (f : Nat → Option Value) {j : Nat} (hj : j < big) (v : Option Value) : cntN (upd f j v) + bit (f j) = cntN f + bit v := by
  have := sumN_swap (f := fun k => bit (upd f j v k)) (g := fun k => bit (f k)) big hj (fun k _ hne => by simp only [upd_other _ _ hne])
  simp only [upd_same] at this
  exact this
/-- a map's function by numbers -/
def intF (f : Nat → Option Value) : Lit → Option Value
  | .int .i64 z => if 0 ≤ z then f z.toNat else none
  | _ => none
theorem intF_at (f : Nat → Option Value) (j : Nat) : intF f (.int .i64 (j : Int)) = f j := by simp [intF]
theorem intF_upd (f : Nat → Option Value) (j : Nat) (v : Option Value) : updF (intF f) (.int .i64 (j : Int)) v = intF (upd f j v) := by
  funext l
  by_cases h : l = .int .i64 (j : Int)
  · subst h; rw [updF_same, intF_at, upd_same]
  · rw [updF_other _ _ h]
    cases l with
    | int q z =>
      cases q <;> try rfl
      simp only [intF]
      split
      · rename_i hz
        rw [upd_other]
        intro e
        apply h
        rw [← e]
        congr 1
        omega
      · rfl
    | _ => rfl
section
variable {P : Program} {k e t : TypeId} {w w' : World} {b : Nat} {f : Nat → Option Value}
/-- block b is a map from numbers below 'big' -/
def IntMap (P : Program) (k : TypeId) (w : World) (b : Nat) (f : Nat → Option Value) : Prop := MapF P k w b (intF f) (cntN f)
theorem IntMap.lt (h : IntMap P k w b f) : b < w.heap.size := MapF.lt h
theorem IntMap.keep (h : IntMap P k w b f) (he : w'.heap[b]? = w.heap[b]?) : IntMap P k w' b f := MapF.keep h he
theorem cntN_none : cntN (fun _ => none) = 0 := sumN_zero _ fun _ _ => rfl
theorem IntMap.made (P : Program) (k : TypeId) (w : World) {b : Nat} (h : w.heap[b]? = some (.map #[] 0)) : IntMap P k w b (fun _ => none) := by
  unfold IntMap
  rw [cntN_none]
  have := MapF.copy (MapF.made P k w) (b' := b) (w' := w) (h.trans (MapKept.heap_alloc w (.map #[] 0)).1.symm)
  exact this.ext fun l => by unfold intF; split <;> simp
theorem int_key {P : Program} {k : TypeId} (hk : P.underlying k = some (.int .i64)) (j : Nat) (hj : j < big) : keyOf P k (.int .i64 (j : Int)) = some (.int .i64 (j : Int)) :=
  keyOf_int_mk hk (by unfold big at hj; simp [Lit.wf, IntKind.min, IntKind.max, IntKind.signed, IntKind.bits]; omega)
theorem IntMap.look (h : IntMap P k w b f) (hk : P.underlying k = some (.int .i64)) (ht : P.underlying t = some (.map k e)) {z : Value} (hz : (zeroValue e).run P w = .ok z w) {j : Nat} (hj : j < big) :
    (Instr.lookup t (.map (some b)) (.int .i64 (j : Int)) false).run P w = .ok ((f j).getD z) w := by
  have := MapF.look1 h (int_keyed hk) ht hz (int_key hk j hj)
  rwa [intF_at] at this
theorem IntMap.store (h : IntMap P k w b f) (hk : P.underlying k = some (.int .i64)) (ht : P.underlying t = some (.map k e)) {j : Nat} (hj : j < big) (val : Value) :
    ∃ w', (Instr.mapUpdate t (.map (some b)) (.int .i64 (j : Int)) val).run P w = .ok () w' ∧ IntMap P k w' b (upd f j (some val)) ∧ w.mapTurned w' b := by
  obtain ⟨w', h1, h2, h3⟩ := MapF.store h (int_keyed hk) ht (by have := cntN_le f; unfold maxLen; unfold big at this; omega) (int_key hk j hj) (val := val)
  refine ⟨w', h1, ?_, h3⟩
  rw [intF_upd, intF_at] at h2
  unfold IntMap
  have e := cntN_upd f hj (some val)
  have : grow (f j) (cntN f) = cntN (upd f j (some val)) := by
    unfold grow
    unfold bit at e
    split <;> rename_i hs <;> simp [hs] at e <;> omega
  rw [← this]
  exact h2
theorem IntMap.drop (h : IntMap P k w b f) (hk : P.underlying k = some (.int .i64)) (ht : P.underlying t = some (.map k e)) {j : Nat} (hj : j < big) (ty : TypeId) :
    ∃ w', (Builtin.delete_ #[t, k] ty #[.map (some b), .int .i64 (j : Int)]).run P w = .ok (.tuple #[]) w' ∧ IntMap P k w' b (upd f j none) ∧ w.mapTurned w' b := by
  obtain ⟨w', h1, h2, h3⟩ := MapF.drop h (int_keyed hk) ht (int_key hk j hj) ty
  refine ⟨w', h1, ?_, h3⟩
  rw [intF_upd, intF_at] at h2
  unfold IntMap
  have e := cntN_upd f hj none
  have : less (f j) (cntN f) = cntN (upd f j none) := by
    unfold less
    unfold bit at e
    split <;> rename_i hs <;> simp [hs] at e <;> omega
  rw [← this]
  exact h2
end
/- places as keys -/
theorem keyedA : Keyed Tryz.prog 42 := Keyed.of_law (deep_law_laid (by kernel_rfl) (m := 2) (by omega) (of_decide_eq_true (by kernel_rfl)) (by kernel_rfl) (by rw [Tryz.underlying42]))
def litA (l i : Nat) : Lit := .string (keyBytes [.int .i64 (l : Int), .int .i64 (i : Int)])
theorem key_A (l i : Nat) (hl : l < 9223372036854775808) (hi : i < 9223372036854775808) : keyOf Tryz.prog 42 (plV l i) = some (litA l i) := by
  have hu := Tryz.underlying42
  have hc : Tryz.prog.cellsOf 42 = 2 := by kernel_rfl
  have hc3 : Tryz.prog.cellsOf 3 = 1 := by kernel_rfl
  have hk : Tryz.prog.keyType 42 = true := by kernel_rfl
  have hf : (plV l i).formed Tryz.prog 42 = true := by simp [plV, Value.formed, hu, hc]
  have hi3 := Tryz.underlying3
  have hwl : (Lit.int .i64 (l : Int)).wf = true := by simp [Lit.wf, IntKind.min, IntKind.max, IntKind.signed, IntKind.bits]; omega
  have hwi : (Lit.int .i64 (i : Int)).wf = true := by simp [Lit.wf, IntKind.min, IntKind.max, IntKind.signed, IntKind.bits]; omega
  have hL : ∀ d, Tryz.prog.keyLits (d + 2) 42 (plV l i).cells.toList = some [.int .i64 (l : Int), .int .i64 (i : Int)] := fun d => by
    unfold Program.keyLits
    rw [hu]
    simp [plV, Value.cells, hc, hc3, Program.keyLits, hi3, hwl, hwi]
  unfold keyOf
  rw [hu]
  simp only [hk, hf, Bool.and_self, if_true]
  obtain ⟨d, hd⟩ : ∃ d, Tryz.prog.types.size + 1 = d + 2 := ⟨Tryz.prog.types.size - 1, by have : 1 ≤ Tryz.prog.types.size := of_decide_eq_true (by kernel_rfl); omega⟩
  rw [hd, hL d]
  rfl
theorem litA_inj {l i m j : Nat} (hl : l < 9223372036854775808) (hi : i < 9223372036854775808) (hm : m < 9223372036854775808) (hj : j < 9223372036854775808) (h : litA l i = litA m j) : l = m ∧ i = j := by
  have h1 := key_A l i hl hi
  have h2 := key_A m j hm hj
  rw [← h] at h2
  have := keyedA.inj h1 h2
  unfold plV at this
  simp at this
  omega
end Go.Proofs.YtblkehdpenfhjaaGreatDoor
/-
  Package shard: an engine in memory; its readers.
-/
set_option linter.unusedVariables false
set_option linter.unusedSimpArgs false
namespace Go.Proofs.YtblkehdpenfhjaaGreatDoor
open Go.RowKit Go.Maps Go.ChangeMaps Go.MapKept

/-- where an engine's parts lie -/
structure EA where
  eb : Nat
  sb : Nat
  rb : Nat
  db : Nat
  ub : Nat
  pb : Nat
def EA.own (a : EA) (b : Nat) : Prop := b = a.eb ∨ b = a.rb ∨ b = a.db ∨ b = a.ub ∨ b = a.pb
/-- what an engine holds -/
structure ED where
  W : Nat
  B : Nat
  space : Nat
  age : Nat
  bu : Int
  he : Int
  ca : Int
  L : List ByteArray
  rows : Nat → Option (List (List ByteArray))
  dirty : Nat → Bool
  unwr : Nat → Bool
  spine : Nat → Nat → Option ByteArray
  nodes : Nat
structure ED.Ok (D : ED) : Prop where
  W1 : 1 ≤ D.W
  W2 : D.W ≤ 32
  B : D.B ≤ 10
  space : D.space < 9223372036854775808
  age : D.age < 4611686018427387904
  small : ∀ x ∈ D.L, x.size ≤ 4096
  len : D.L.length ≤ 68719476736
  nodes : D.nodes ≤ 1152921504606846976
def boolF (f : Nat → Bool) : Nat → Option Value := fun j => if f j then some (.bool true) else none
def GridIn (w : World) (v : Value) (g : List (List ByteArray)) (X : Nat → Prop) : Prop :=
  ∃ vs : List Value, SlIn w v vs X ∧ vs.length = g.length ∧ ∀ k (h : k < vs.length) (h' : k < g.length), SlIn w vs[k] (g[k].map Value.string) X
def GridO (w : World) (o : Option Value) (g : Option (List (List ByteArray))) (X : Nat → Prop) : Prop := match o, g with
  | none, none => True
  | some v, some g => GridIn w v g X
  | _, _ => False
theorem GridIn.keep {w w' : World} {v : Value} {g : List (List ByteArray)} {X : Nat → Prop} (h : GridIn w v g X) (hs : w.heap.size ≤ w'.heap.size) (hk : ∀ b, b < w.heap.size → X b → w'.heap[b]? = w.heap[b]?) : GridIn w' v g X := by
  obtain ⟨vs, h1, h2, h3⟩ := h
  exact ⟨vs, h1.keep hs hk, h2, fun k hk1 hk2 => (h3 k hk1 hk2).keep hs hk⟩
theorem GridIn.mono {w : World} {v : Value} {g : List (List ByteArray)} {X Y : Nat → Prop} (h : GridIn w v g X) (hX : ∀ b, b < w.heap.size → X b → Y b) : GridIn w v g Y := by
  obtain ⟨vs, h1, h2, h3⟩ := h
  exact ⟨vs, h1.mono hX, h2, fun k hk1 hk2 => (h3 k hk1 hk2).mono hX⟩
theorem GridO.keep {w w' : World} {o : Option Value} {g : Option (List (List ByteArray))} {X : Nat → Prop} (h : GridO w o g X) (hs : w.heap.size ≤ w'.heap.size) (hk : ∀ b, b < w.heap.size → X b → w'.heap[b]? = w.heap[b]?) : GridO w' o g X := by
  unfold GridO at *
  split at h
  · trivial
  · exact h.keep hs hk
  · exact h.elim
theorem GridO.mono {w : World} {o : Option Value} {g : Option (List (List ByteArray))} {X Y : Nat → Prop} (h : GridO w o g X) (hX : ∀ b, b < w.heap.size → X b → Y b) : GridO w o g Y := by
  unfold GridO at *
  split at h
  · trivial
  · exact h.mono hX
  · exact h.elim
/-- the engine's cells -/
def engC (a : EA) (D : ED) (lv : Value) : Array Value :=
  #[.pointer (some ⟨a.sb, 0, none⟩), .int .i64 (D.age : Int), .bool false, .int .i64 3, .int .i64 (D.W : Int), .int .i64 D.bu, .int .i64 D.he, .int .i64 D.ca, .int .i64 (D.B : Int), .int .i64 (D.space : Int), lv, .map (some a.rb), .map (some a.db), .map (some a.ub), .map (some a.pb), .int .i64 (D.nodes : Int)]
structure EngIn (w : World) (a : EA) (D : ED) (X : Nat → Prop) (lv : Value) (rv : Nat → Option Value) (sf : Lit → Option Value) (ns : Nat) : Prop where
  blk : w.heap[a.eb]? = some (.cells (engC a D lv) 88 (0, 0))
  rowsM : IntMap Tryz.prog 3 w a.rb rv
  dirtyM : IntMap Tryz.prog 3 w a.db (boolF D.dirty)
  unwrM : IntMap Tryz.prog 3 w a.ub (boolF D.unwr)
  spineM : MapF Tryz.prog 42 w a.pb sf ns
  list : SlIn w lv (D.L.map Value.string) X
  grid : ∀ j, GridO w (rv j) (D.rows j) X
  spv : ∀ l i, l < 9223372036854775808 → i < 9223372036854775808 → sf (litA l i) = (D.spine l i).map Value.string
  nsle : ns ≤ D.nodes + 1
  ap1 : a.rb ≠ a.db
  ap2 : a.rb ≠ a.ub
  ap3 : a.rb ≠ a.pb
  ap4 : a.db ≠ a.ub
  ap5 : a.db ≠ a.pb
  ap6 : a.ub ≠ a.pb
  apX : ∀ b, X b → ¬ a.own b
  ok : D.Ok
  glb : ∀ b, GlobB b → ¬ a.own b
  nl : D.L = [] → lv = .slice none 0 0
def EngAt (w : World) (a : EA) (D : ED) (X : Nat → Prop) : Prop := ∃ lv rv sf ns, EngIn w a D X lv rv sf ns
theorem EngAt.ok {w : World} {a : EA} {D : ED} {X : Nat → Prop} (h : EngAt w a D X) : D.Ok := by obtain ⟨_, _, _, _, h⟩ := h; exact h.ok
section
variable {w w' : World} {a : EA} {D : ED} {X Y : Nat → Prop} {lv : Value} {rv : Nat → Option Value} {sf : Lit → Option Value} {ns : Nat}
theorem EngIn.low (h : EngIn w a D X lv rv sf ns) {b : Nat} (hb : a.own b) : b < w.heap.size := by
  rcases hb with rfl | rfl | rfl | rfl | rfl
  · exact block_lt h.blk
  · exact h.rowsM.lt
  · exact h.dirtyM.lt
  · exact h.unwrM.lt
  · exact h.spineM.lt
theorem EngAt.low (h : EngAt w a D X) {b : Nat} (hb : a.own b) : b < w.heap.size := by
  obtain ⟨_, _, _, _, h⟩ := h
  exact h.low hb
theorem EngIn.keep (h : EngIn w a D X lv rv sf ns) (hs : w.heap.size ≤ w'.heap.size) (hk : ∀ b, b < w.heap.size → a.own b ∨ X b → w'.heap[b]? = w.heap[b]?) : EngIn w' a D X lv rv sf ns :=
  ⟨(hk _ (h.low (.inl rfl)) (.inl (.inl rfl))).trans h.blk, h.rowsM.keep (hk _ (h.low (.inr (.inl rfl))) (.inl (.inr (.inl rfl)))), h.dirtyM.keep (hk _ (h.low (.inr (.inr (.inl rfl)))) (.inl (.inr (.inr (.inl rfl))))),
    h.unwrM.keep (hk _ (h.low (.inr (.inr (.inr (.inl rfl))))) (.inl (.inr (.inr (.inr (.inl rfl)))))), h.spineM.keep (hk _ (h.low (.inr (.inr (.inr (.inr rfl))))) (.inl (.inr (.inr (.inr (.inr rfl)))))),
    h.list.keep hs fun b hb hX => hk b hb (.inr hX), fun j => (h.grid j).keep hs fun b hb hX => hk b hb (.inr hX), h.spv, h.nsle, h.ap1, h.ap2, h.ap3, h.ap4, h.ap5, h.ap6, h.apX, h.ok, h.glb, h.nl⟩
theorem EngAt.keep (h : EngAt w a D X) (hs : w.heap.size ≤ w'.heap.size) (hk : ∀ b, b < w.heap.size → a.own b ∨ X b → w'.heap[b]? = w.heap[b]?) : EngAt w' a D X := by
  obtain ⟨lv, rv, sf, ns, h⟩ := h
  exact ⟨lv, rv, sf, ns, h.keep hs hk⟩
theorem EngIn.below (h : EngIn w a D X lv rv sf ns) (hb : Below w.heap.size w w') : EngIn w' a D X lv rv sf ns := h.keep hb.size fun b hlt _ => hb.block b hlt
theorem EngAt.below (h : EngAt w a D X) (hb : Below w.heap.size w w') : EngAt w' a D X := h.keep hb.size fun b hlt _ => hb.block b hlt
theorem EngIn.mono (h : EngIn w a D X lv rv sf ns) (hX : ∀ b, b < w.heap.size → X b → Y b) (hY : ∀ b, Y b → ¬ a.own b) : EngIn w a D Y lv rv sf ns :=
  ⟨h.blk, h.rowsM, h.dirtyM, h.unwrM, h.spineM, h.list.mono hX, fun j => (h.grid j).mono hX, h.spv, h.nsle, h.ap1, h.ap2, h.ap3, h.ap4, h.ap5, h.ap6, hY, h.ok, h.glb, h.nl⟩
theorem EngIn.cell (h : EngIn w a D X lv rv sf ns) (k : Nat) (hk : k < 16) : w.cell? ⟨a.eb, k, none⟩ = some ((engC a D lv)[k]'hk) := cell_of_block h.blk hk
theorem EngIn.c0 (h : EngIn w a D X lv rv sf ns) : w.cell? ⟨a.eb, 0, none⟩ = some (.pointer (some ⟨a.sb, 0, none⟩)) := h.cell 0 (by decide)
theorem EngIn.c1 (h : EngIn w a D X lv rv sf ns) : w.cell? ⟨a.eb, 1, none⟩ = some (.int .i64 (D.age : Int)) := h.cell 1 (by decide)
theorem EngIn.c2 (h : EngIn w a D X lv rv sf ns) : w.cell? ⟨a.eb, 2, none⟩ = some (.bool false) := h.cell 2 (by decide)
theorem EngIn.c3 (h : EngIn w a D X lv rv sf ns) : w.cell? ⟨a.eb, 3, none⟩ = some (.int .i64 3) := h.cell 3 (by decide)
theorem EngIn.c4 (h : EngIn w a D X lv rv sf ns) : w.cell? ⟨a.eb, 4, none⟩ = some (.int .i64 (D.W : Int)) := h.cell 4 (by decide)
theorem EngIn.c8 (h : EngIn w a D X lv rv sf ns) : w.cell? ⟨a.eb, 8, none⟩ = some (.int .i64 (D.B : Int)) := h.cell 8 (by decide)
theorem EngIn.c9 (h : EngIn w a D X lv rv sf ns) : w.cell? ⟨a.eb, 9, none⟩ = some (.int .i64 (D.space : Int)) := h.cell 9 (by decide)
theorem EngIn.c10 (h : EngIn w a D X lv rv sf ns) : w.cell? ⟨a.eb, 10, none⟩ = some (lv) := h.cell 10 (by decide)
theorem EngIn.c11 (h : EngIn w a D X lv rv sf ns) : w.cell? ⟨a.eb, 11, none⟩ = some (.map (some a.rb)) := h.cell 11 (by decide)
theorem EngIn.c12 (h : EngIn w a D X lv rv sf ns) : w.cell? ⟨a.eb, 12, none⟩ = some (.map (some a.db)) := h.cell 12 (by decide)
theorem EngIn.c13 (h : EngIn w a D X lv rv sf ns) : w.cell? ⟨a.eb, 13, none⟩ = some (.map (some a.ub)) := h.cell 13 (by decide)
theorem EngIn.c14 (h : EngIn w a D X lv rv sf ns) : w.cell? ⟨a.eb, 14, none⟩ = some (.map (some a.pb)) := h.cell 14 (by decide)
theorem EngIn.c15 (h : EngIn w a D X lv rv sf ns) : w.cell? ⟨a.eb, 15, none⟩ = some (.int .i64 (D.nodes : Int)) := h.cell 15 (by decide)
theorem EngIn.froz (h : EngIn w a D X lv rv sf ns) (k : Nat) : w.frozen? ⟨a.eb, k, none⟩ = false := frozen_of_block h.blk
theorem map_ne {P : Program} {k : TypeId} {w : World} {b c n : Nat} {f : Lit → Option Value} {cs : Array Value} {t : TypeId} (h : MapF P k w b f n) (hc : w.heap[c]? = some (.cells cs t (0, 0))) : c ≠ b := by
  rintro rfl
  obtain ⟨es, cl, he⟩ := h.entries
  have := hc.symm.trans he
  injection this with this
  cases this
theorem EngIn.ne1 (h : EngIn w a D X lv rv sf ns) : a.eb ≠ a.rb := map_ne h.rowsM h.blk
theorem EngIn.ne2 (h : EngIn w a D X lv rv sf ns) : a.eb ≠ a.db := map_ne h.dirtyM h.blk
theorem EngIn.ne3 (h : EngIn w a D X lv rv sf ns) : a.eb ≠ a.ub := map_ne h.unwrM h.blk
theorem EngIn.ne4 (h : EngIn w a D X lv rv sf ns) : a.eb ≠ a.pb := map_ne h.spineM h.blk
def ED.size (D : ED) : Nat := 2 ^ D.B
def ED.part (D : ED) : Nat := min (2 ^ D.B) 64
theorem ED.Ok.size_le (h : D.Ok) : D.size ≤ 1024 := by
  have : 2 ^ D.B ≤ 2 ^ 10 := Nat.pow_le_pow_right (by decide) h.B
  exact this
theorem ED.size_pos (D : ED) : 1 ≤ D.size := Nat.one_le_two_pow
theorem ED.part_pos (D : ED) : 1 ≤ D.part := by have := Nat.one_le_two_pow (n := D.B); unfold ED.part; omega
set_option maxRecDepth 100000 in
theorem size_calls (h : EngAt w a D X) : Calls Tryz.prog 72 #[.pointer (some ⟨a.eb, 0, none⟩)] w fun r w' => r = .returned (.int .i64 (D.size : Int)) ∧ w = w' := by
  obtain ⟨lv, rv, sf, ns, h⟩ := h
  have c8 := h.c8
  have hB := h.ok.B
  obtain ⟨b, hb⟩ : ∃ b, b = D.B := ⟨_, rfl⟩
  have hsz : D.size = 2 ^ b := by rw [hb]; rfl
  have hp := h.ok.size_le
  rw [hsz] at hp ⊢
  rw [← hb] at hB
  have c : w.cell? ⟨a.eb, 8, none⟩ = some (.int .i64 (b : Int)) := by rw [c8, ← hb]
  clear h c8 hsz hb
  have k1 : (b : Int) ≤ 64 := by omega
  obtain ⟨p, hpp⟩ : ∃ p, p = 2 ^ b := ⟨_, rfl⟩
  have hq : (1 : Int) * 2 ^ b = (p : Int) := by rw [hpp]; simp
  have hq2 : (2 : Int) ^ b = (p : Int) := by rw [hpp]; simp
  rw [← hpp] at hp ⊢
  clear hpp
  go_enter Tryz.func72, Tryz.ntmps72
  go_wp2
  go_ret
  exact ⟨rfl, by first | rfl | trivial⟩
end
end Go.Proofs.YtblkehdpenfhjaaGreatDoor
/-
  Package shard: part, cut, leaves, counted.
-/
set_option linter.unusedVariables false
set_option linter.unusedSimpArgs false
namespace Go.Proofs.YtblkehdpenfhjaaGreatDoor
open Go.RowKit Go.Maps Go.ChangeMaps Go.MapKept

section
variable {w w' : World} {a : EA} {D : ED} {X Y : Nat → Prop} {lv : Value} {rv : Nat → Option Value} {sf : Lit → Option Value} {ns : Nat}
set_option maxRecDepth 100000 in
theorem part_calls (h : EngAt w a D X) : Calls Tryz.prog 66 #[.pointer (some ⟨a.eb, 0, none⟩)] w fun r w' => r = .returned (.int .i64 (D.part : Int)) ∧ w = w' := by
  have HS := Lib.hid (size_calls h)
  have hs := h.ok.size_le
  have hp := D.size_pos
  have hd : D.part = min D.size 64 := rfl
  rw [hd]
  obtain ⟨s, hs'⟩ : ∃ s, s = D.size := ⟨_, rfl⟩
  rw [← hs'] at HS hs ⊢
  clear h hd hs' hp
  by_cases hlt : s < 64
  · have k1 : decide ((s : Int) < 64) = true := decide_eq_true (by omega)
    have k2 : decide (64 < (s : Int)) = false := decide_eq_false (by omega)
    have hm : min s 64 = s := by omega
    have k3 : min (s : Int) 64 = (s : Int) := by omega
    rw [hm]
    clear hm
    go_enter Tryz.func66, Tryz.ntmps66
    go_wp2_with fail
    refine (HS.out).mono ?_
    rintro r w1 ⟨rfl, rfl⟩
    go_wp2
    go_ret
    exact ⟨rfl, by first | rfl | trivial⟩
  · have k1 : decide ((s : Int) < 64) = false := decide_eq_false (by omega)
    have hm : min s 64 = 64 := by omega
    have k3 : min (s : Int) 64 = 64 := by omega
    rw [hm]
    clear hm
    go_enter Tryz.func66, Tryz.ntmps66
    go_wp2_with fail
    refine (HS.out).mono ?_
    rintro r w1 ⟨rfl, rfl⟩
    go_wp2
    go_ret
    exact ⟨rfl, by first | rfl | trivial⟩
theorem SlIn.part {us : List Value} {v : Value} (h : SlIn w v us X) {A : Option Addr} {cap n lo m : Nat} (hv : v = .slice A n cap) (hlm : lo + m ≤ n) (hc : n ≤ cap) :
    ∀ A', (A = none → A' = none) → (∀ b o, A = some ⟨b, o, none⟩ → A' = some ⟨b, o + lo, none⟩) → SlIn w (.slice A' m (cap - lo)) ((us.drop lo).take m) X := by
  intro A' h0 h1
  obtain ⟨A2, cap2, e, hcap, h⟩ := h
  rw [hv] at e
  injection e with e1 e2 e3
  subst e1 e3
  have hl : ((us.drop lo).take m).length = m := by simp; omega
  refine ⟨A', cap - lo, by rw [hl], by rw [hl]; omega, fun hp => ?_⟩
  rw [hl] at hp
  obtain ⟨b, o, q1, q2, q3, q4⟩ := h (by omega)
  refine ⟨b, o + lo, h1 b o q1, q2, q3, fun i hi => ?_⟩
  rw [hl] at hi
  rw [Nat.add_assoc, q4 (lo + i) (by omega)]
  simp
/-- the value that cut answers -/
def cutV (v : Value) (lo n : Nat) : Value := match v with
  | .slice A len cap => if cap = min lo len then .slice A (min (min lo len + n) len - min lo len) 0 else .slice (A.map (·.add (min lo len))) (min (min lo len + n) len - min lo len) (cap - min lo len)
  | v => v
theorem slin_cutV (L : List ByteArray) {v : Value} (hv : SlIn w v (L.map Value.string) X) (lo n : Nat) : SlIn w (cutV v lo n) ((seg L lo n).map Value.string) X := by
  have HV := hv
  obtain ⟨A, cap, rfl, hcap, hcells⟩ := hv
  obtain ⟨len, hlen⟩ : ∃ l, l = L.length := ⟨_, rfl⟩
  have hml : (L.map Value.string).length = len := by rw [List.length_map, hlen]
  clear hcells
  rw [hml] at hcap HV ⊢
  have hseg : (seg L lo n).map Value.string = ((L.map Value.string).drop (min lo len)).take (min (min lo len + n) len - min lo len) := by
    unfold seg
    rw [List.map_take, List.map_drop]
    by_cases hh : lo ≤ len
    · have e1 : min lo len = lo := by omega
      rw [e1]
      by_cases hh2 : lo + n ≤ len
      · rw [show min (lo + n) len - lo = n by omega]
      · rw [List.take_of_length_le (by simp; omega), List.take_of_length_le (by simp; omega)]
    · rw [List.drop_eq_nil_of_le (by simp; omega), List.drop_eq_nil_of_le (by simp; omega)]
      simp
  rw [hseg]
  unfold cutV
  simp only
  split
  · rename_i hc
    rw [show min (min lo len + n) len - min lo len = 0 by omega, List.take_zero]
    exact ⟨A, 0, rfl, Nat.le_refl _, fun h => by simp at h⟩
  · exact SlIn.part HV rfl (by omega) (by omega) _ (fun e => by rw [e]; rfl) (fun b o e => by rw [e]; simp [Addr.add])
theorem cutV_slice (v : Value) (lo n : Nat) (h : ∃ A l c, v = .slice A l c) : ∃ A l c, cutV v lo n = .slice A l c := by
  obtain ⟨A, l, c, rfl⟩ := h
  unfold cutV
  simp only
  split
  · exact ⟨_, _, _, rfl⟩
  · exact ⟨_, _, _, rfl⟩
set_option maxRecDepth 100000 in
theorem cutS_calls (A : Option Addr) (len cap lo n : Nat) (hc : len ≤ cap) (hL : len ≤ 1099511627776) (hlo : lo ≤ 140737488355328) (hn : n ≤ 1099511627776) (w : World) :
    Calls Tryz.prog 68 #[.slice A len cap, .int .i64 lo, .int .i64 n] w fun r w' => r = .returned (cutV (.slice A len cap) lo n) ∧ w = w' := by
  obtain ⟨a1, ha1⟩ : ∃ x, x = min lo len := ⟨_, rfl⟩
  obtain ⟨b1, hb1⟩ : ∃ x, x = min (a1 + n) len := ⟨_, rfl⟩
  have k1 : min (lo : Int) (len : Int) = (a1 : Int) := by omega
  have k2 : min ((a1 : Int) + (n : Int)) (len : Int) = (b1 : Int) := by omega
  have hab : a1 ≤ b1 := by omega
  have hbl : b1 ≤ len := by omega
  have k3 : (0 : Int) ≤ (a1 : Int) := by omega
  have k4 : (a1 : Int) ≤ (b1 : Int) := by omega
  have k5 : (b1 : Int) ≤ (cap : Int) := by omega
  have HCV := Lib.hid (show cutV (.slice A len cap) lo n = if cap = a1 then .slice A (b1 - a1) 0 else .slice (A.map (·.add a1)) (b1 - a1) (cap - a1) by
    unfold cutV
    simp only
    rw [← ha1, ← hb1])
  obtain ⟨vv, hvv⟩ : ∃ x, x = cutV (.slice A len cap) lo n := ⟨_, rfl⟩
  rw [← hvv] at HCV ⊢
  clear hvv ha1 hb1
  go_enter Tryz.func68, Tryz.ntmps68
  go_wp2
  · go_ret
    have hvv := HCV.out
    rw [if_pos (by first | rfl | assumption)] at hvv
    exact ⟨congrArg Ending.returned hvv.symm, by first | rfl | trivial⟩
  · go_ret
    have hvv := HCV.out
    rw [if_neg (by first | assumption | (intro e; apply_assumption; exact e.symm))] at hvv
    exact ⟨congrArg Ending.returned hvv.symm, by first | rfl | trivial⟩
theorem cutL_calls (L : List ByteArray) {v : Value} (hv : SlIn w v (L.map Value.string) X) (lo n : Nat) (hL : L.length ≤ 1099511627776) (hlo : lo ≤ 140737488355328) (hn : n ≤ 1099511627776) :
    Calls Tryz.prog 68 #[v, .int .i64 lo, .int .i64 n] w fun r w' => r = .returned (cutV v lo n) ∧ w = w' := by
  obtain ⟨A, cap, rfl, hcap, hcells⟩ := hv
  exact cutS_calls A _ cap lo n hcap (by simpa using hL) hlo hn w
set_option maxRecDepth 100000 in
theorem leaves_calls (h : EngIn w a D X lv rv sf ns) (j : Nat) (hj : j ≤ 68719476736) :
    Calls Tryz.prog 153 #[.pointer (some ⟨a.eb, 0, none⟩), .int .i64 j] w fun r w' => r = .returned (cutV lv (j * D.size) D.size) ∧ ∃ n, w' = w.drewN n := by
  have hsz := h.ok.size_le
  have HS := Lib.hid fun (n : Nat) => size_calls (w := w.drewN n) (a := a) (D := D) (X := X) ⟨lv, rv, sf, ns, h.keep (Nat.le_refl _) fun _ _ _ => rfl⟩
  have hlen := h.ok.len
  have hmm := Nat.mul_le_mul_left j hsz
  have HCUT := Lib.hid fun (n : Nat) => cutL_calls (w := w.drewN n) (X := X) D.L h.list (j * D.size) D.size (by omega) (by omega) (by omega)
  have c10 := h.c10
  obtain ⟨s, hs⟩ : ∃ s, s = D.size := ⟨_, rfl⟩
  rw [← hs] at HS HCUT hsz hmm ⊢
  obtain ⟨p, hp⟩ : ∃ p, p = j * s := ⟨_, rfl⟩
  have hmul : (j : Int) * (s : Int) = (p : Int) := by rw [hp]; simp
  have hpl : p ≤ 140737488355328 := by rw [hp]; omega
  rw [← hp] at HCUT ⊢
  clear hs hp h hlen hmm
  go_enter Tryz.func153, Tryz.ntmps153
  go_wp2_with fail
  go_quiet (first | (go_at_call 72; exact (HS.out _).mono fun _ _ ⟨h1, h2⟩ => ⟨h1, _, h2.symm⟩) | (go_at_call 68; exact (HCUT.out _).mono fun _ _ ⟨h1, h2⟩ => ⟨h1, _, h2.symm⟩))
  go_wp2
  go_ret
  exact ⟨rfl, _, rfl⟩
end
end Go.Proofs.YtblkehdpenfhjaaGreatDoor
/-
  Package shard: counted, over, Size, Leaf, Counts.
-/
set_option linter.unusedVariables false
set_option linter.unusedSimpArgs false
namespace Go.Proofs.YtblkehdpenfhjaaGreatDoor
open Go.RowKit Go.Maps Go.ChangeMaps Go.MapKept

section
variable {w w' : World} {a : EA} {D : ED} {X Y : Nat → Prop} {lv : Value} {rv : Nat → Option Value} {sf : Lit → Option Value} {ns : Nat}
/-- what a part counts -/
def countF (xs : List ByteArray) : Nat := if xs.length = 0 then 0 else 52 + (leavesL xs).length
theorem leavesL_len (xs : List ByteArray) (hn : xs.length ≤ 1024) (hx : ∀ x ∈ xs, x.size ≤ 4096) : (leavesL xs).length ≤ 11 + xs.length * 4106 := leavesN_len xs hn hx _ (Nat.le_refl _)
set_option maxRecDepth 100000 in
theorem counted_calls (xs : List ByteArray) (hn : xs.length ≤ 1024) (hx : ∀ x ∈ xs, x.size ≤ 4096) (v : Value) (hv : SlIn w v (xs.map Value.string) X) :
    Calls Tryz.prog 67 #[v] w fun r w' => r = .returned (.int .i64 (countF xs : Int)) ∧ Below w.heap.size w w' := by
  have HW := Lib.hid (wireLeaves_calls xs hn hx v w (hv.mono fun _ _ _ => trivial))
  have hlen := leavesL_len xs hn hx
  obtain ⟨A, cap, rfl, hcap, _⟩ := hv
  rw [List.length_map] at hcap HW ⊢
  have HC := Lib.hid (show countF xs = if xs.length = 0 then 0 else 52 + (leavesL xs).length from rfl)
  obtain ⟨n, hnn⟩ : ∃ n, n = xs.length := ⟨_, rfl⟩
  rw [← hnn] at HW HC hn hlen ⊢
  obtain ⟨y, hy⟩ : ∃ y, y = mk (leavesL xs) := ⟨_, rfl⟩
  have hys : y.size = (leavesL xs).length := by rw [hy, mk_size]
  rw [← hys] at HC hlen
  rw [← hy] at HW
  obtain ⟨c, hc⟩ : ∃ c, c = countF xs := ⟨_, rfl⟩
  rw [← hc] at HC ⊢
  have hyb : (y.size : Int) ≤ 1073741824 := by omega
  clear hnn hy hys hc hlen hcap
  by_cases h0 : n = 0
  · subst h0
    have hc0 : c = 0 := HC.out
    subst hc0
    go_enter Tryz.func67, Tryz.ntmps67
    go_wp2
    go_ret
    exact ⟨rfl, Below.refl _ _⟩
  · have k0 : ((n : Int) = 0) = False := by simp; omega
    have hc1 : (52 : Int) + (y.size : Int) = (c : Int) := by have := HC.out; rw [if_neg h0] at this; omega
    go_enter Tryz.func67, Tryz.ntmps67
    go_wp2_with fail
    refine (HW.out).mono ?_
    rintro r w1 ⟨rfl, hb⟩
    have HB := Lib.hid hb
    clear hb
    go_wp2
    go_ret
    exact ⟨rfl, HB.out⟩
theorem modify_same {α : Type} (a : Array α) (i : Nat) (f : α → α) (h : ∀ x, a[i]? = some x → f x = x) : a.modify i f = a := by
  apply Array.ext_getElem?
  intro j
  rw [Array.getElem?_modify]
  split
  · rename_i hj
    subst hj
    cases hx : a[i]? with
    | none => rfl
    | some x => simp [h x hx]
  · rfl
theorem setCell_same {w : World} {b off : Nat} {v : Value} {c : Array Value} {t : TypeId} (hb : w.heap[b]? = some (.cells c t (0, 0))) (h : w.cell? ⟨b, off, none⟩ = some v) : w.setCell ⟨b, off, none⟩ v = w := by
  have hc : c[off]? = some v := by rw [← h]; simp [World.cell?, hb]
  have e : (w.setCell ⟨b, off, none⟩ v).heap = w.heap := by
    unfold World.setCell
    simp only
    refine modify_same _ _ _ fun x hx => ?_
    rw [hb] at hx
    injection hx with hx
    subst hx
    simp only [Obj.cells.injEq, and_true]
    apply Array.ext_getElem?
    intro j
    simp only [Option.isSome_none, Bool.false_eq_true, if_false]
    rw [Array.getElem?_setIfInBounds]
    split
    · rename_i hj
      subst hj
      obtain ⟨hlt, _⟩ := Array.getElem?_eq_some_iff.1 hc
      rw [if_pos hlt, hc]
    · rfl
  unfold World.setCell at e ⊢
  simp only at e ⊢
  rw [e]
set_option maxHeartbeats 4000000 in
set_option maxRecDepth 100000 in
theorem over_calls (h : EngIn w a D X lv rv sf ns) {room : Nat} {now disk : Recs} {log : List Value} {F : Nat → Prop} (hS : StoreAt w a.sb room now disk log D.age F) :
    Calls Tryz.prog 58 #[.pointer (some ⟨a.eb, 0, none⟩)] w fun r w' => r = .returned (.bool false) ∧ ∃ n, w' = w.drewN n := by
  have c0 := h.c0
  have c1 := h.c1
  have c2 := h.c2
  have f2 := h.froz 2
  have HB := Lib.hid h.blk
  obtain ⟨eb, sb, rb, db, ub, pb⟩ := a
  dsimp only at c0 c1 c2 f2 HB hS ⊢
  obtain ⟨⟨mb, kb, lv2, h1, _⟩, _⟩ := hS
  have HD := Lib.hid fun n => down_calls (w := w.drewN n) (h := ⟨h1.blk, h1.now.keep rfl, h1.disk.keep rfl, own_keep h1.own fun _ _ _ => rfl⟩)
  have HA := Lib.hid fun n => age_calls (w := w.drewN n) (h := ⟨h1.blk, h1.now.keep rfl, h1.disk.keep rfl, own_keep h1.own fun _ _ _ => rfl⟩)
  obtain ⟨ag, hag⟩ : ∃ x, x = D.age := ⟨_, rfl⟩
  rw [← hag] at HA c1
  clear h h1 hag
  have HSC := Lib.hid (show w.setCell ⟨eb, 2, none⟩ (.bool false) = w from setCell_same HB.out c2)
  go_enter Tryz.func58, Tryz.ntmps58
  go_wp2_with fail
  refine wp_region_tree (fun w' => ∃ n, w' = w.drewN n) (.hd 0 (.hd 1 (.hd 2 (.hd 3 (.hd 4 (.hd 5 (.hd 6 (.hd 7 (.hd 8 (.hd 9 (.hd 10 (.hd 11 (.hd 12 (.hd 13 (.hd 14 (.hd 15 (.hd 16 (.hd 17 (.hd 18 (.hd 19 (.hd 20 (.hd 21 (.hd 22 (.hd 23 (.hd 24 (.hd 25 (.fk 26 .nil .no))))))))))))))))))))))))))) (by kernel_rfl) (by kernel_rfl) (fun _ _ d _ _ h => by cases d <;> exact h) ⟨1, rfl⟩ ?_
  iterate 10
    refine hdT ?_ ?_ (by rfl) (by rfl) (fun w' s1 => ?_) ?_ ?_
    rotate_left 2
    focus (obtain ⟨n, rfl⟩ := s1; go_simp; exact rfl)
    focus (go_simp; exact rfl)
  refine hcT ?_ ?_ ?_ ?_ (by rfl) (by rfl) (fun w' s1 => ?_) (fun w' s1 => ?_) ?_ ?_
  rotate_left 4
  focus (obtain ⟨n, rfl⟩ := s1; go_simp; first | exact rfl | (refine ⟨?_, ?_⟩ <;> exact rfl))
  focus (obtain ⟨n, rfl⟩ := s1; exact HD.out _)
  focus (go_simp; exact rfl)
  iterate 6
    refine hdT ?_ ?_ (by rfl) (by rfl) (fun w' s1 => ?_) ?_ ?_
    rotate_left 2
    focus (obtain ⟨n, rfl⟩ := s1; go_simp; exact rfl)
    focus (go_simp; exact rfl)
  refine hcT ?_ ?_ ?_ ?_ (by rfl) (by rfl) (fun w' s1 => ?_) (fun w' s1 => ?_) ?_ ?_
  rotate_left 4
  focus (obtain ⟨n, rfl⟩ := s1; go_simp; first | exact rfl | (refine ⟨?_, ?_⟩ <;> exact rfl))
  focus (obtain ⟨n, rfl⟩ := s1; exact HA.out _)
  focus (go_simp; exact rfl)
  iterate 8
    refine hdT ?_ ?_ (by rfl) (by rfl) (fun w' s1 => ?_) ?_ ?_
    rotate_left 2
    focus (obtain ⟨n, rfl⟩ := s1; go_simp; exact rfl)
    focus (go_simp; exact rfl)
  refine fkTn (by kernel_rfl) (by rfl) (by rfl) (fun K hK => ?_) noT
  go_wp2_with fail
  refine nilT ?_
  rw [HSC.out]
  go_wp2
  go_ret
  exact ⟨rfl, 1, rfl⟩
set_option maxRecDepth 100000 in
theorem engSize_calls (h : EngAt w a D X) :
    Calls Tryz.prog 15 #[.pointer (some ⟨a.eb, 0, none⟩)] w fun r w' => r = .returned (.int .i64 (D.L.length : Int)) ∧ w = w' := by
  obtain ⟨lv, rv, sf, ns, h⟩ := h
  have c10 := h.c10
  obtain ⟨A, cap, e, hcap, _⟩ := h.list
  rw [List.length_map] at e hcap
  obtain ⟨n, hn⟩ : ∃ x, x = D.L.length := ⟨_, rfl⟩
  rw [← hn] at e hcap ⊢
  subst e
  clear h hn hcap
  go_enter Tryz.func15, Tryz.ntmps15
  go_wp2
  go_ret
  exact ⟨rfl, by first | rfl | trivial⟩
theorem results_cell_row1 {P : Program} {fn : Func} {p : Tmp} {ty : TypeId} (h : fn.results = #[.cell p ty]) (tmps : Array Value) (w : World) (g : Nat) (t : TypeId) (cs : Array Value) (fr : Nat × Nat) (d : TypeDesc)
    (hp : tmps.getD p undef = .pointer (some ⟨g, 0, none⟩)) (hg : w.heap[g]? = some (.cells cs t fr)) (hu : P.underlying ty = some d) (hd : (match d with | .struct _ | .array _ _ => true | _ => false) = true) (hi : (P.info? ty).map (·.size) = some cs.size) :
    (results fn tmps).run P w = .ok (.agg cs) w := by
  have e : (results fn tmps).run P w = ((asAddr (tmps.getD p undef)).run P w).andThen fun a w₁ => (loadVar ty a).run P w₁ := by
    simp only [results, h]
    simp [Sem.run_bind, Result.andThen]
  rw [e, hp]
  simp [asAddr, run_loadVar_row w g t ty cs fr d hg hu hd hi, Result.andThen]
/-- an engine's counts -/
def countsV (n : Nat) : Value := .agg #[.int .i64 (n : Int), .int .i64 0, .int .i64 0, .int .i64 0]
set_option maxRecDepth 100000 in
theorem engCounts_calls (h : EngAt w a D X) :
    Calls Tryz.prog 14 #[.pointer (some ⟨a.eb, 0, none⟩)] w fun r w' => r = .returned (countsV D.nodes) ∧ Below w.heap.size w w' := by
  obtain ⟨lv, rv, sf, ns, h⟩ := h
  have c15 := h.c15
  have hl := h.low (.inl rfl)
  obtain ⟨n, hn⟩ : ∃ x, x = D.nodes := ⟨_, rfl⟩
  rw [← hn] at c15 ⊢
  clear h hn
  unfold countsV
  have hlt : a.eb < w.heap.size := hl
  obtain ⟨eb, sb, rb, db, ub, pb⟩ := a
  dsimp only at c15 hlt ⊢
  clear hl
  go_enter Tryz.func14, Tryz.ntmps14
  go_upto_region 1 with (fail)
  obtain ⟨w0, hw0⟩ : ∃ w0, w0 = w.alloc (.cells #[.int .i64 0, .int .i64 0, .int .i64 0, .int .i64 0] 35) := ⟨_, rfl⟩
  have q := (MapKept.heap_alloc w (.cells #[.int .i64 0, .int .i64 0, .int .i64 0, .int .i64 0] 35)).1
  rw [← hw0] at q
  have HB := Lib.hid (show Below w.heap.size w w0 by rw [hw0]; exact (Below.refl _ _).alloc (Nat.le_refl _) _)
  have c15' : w0.cell? ⟨eb, 15, none⟩ = some (.int .i64 (n : Int)) := (HB.out.cell (p := ⟨eb, 15, none⟩) hlt).trans c15
  rw [← hw0]
  clear hw0 c15
  have d0 := cell_of_block (off := 0) q (by show 0 < 4; decide)
  have d1 := cell_of_block (off := 1) q (by show 1 < 4; decide)
  have d2 := cell_of_block (off := 2) q (by show 2 < 4; decide)
  have d3 := cell_of_block (off := 3) q (by show 3 < 4; decide)
  have e0 := frozen_of_block (off := 0) q
  have e1 := frozen_of_block (off := 1) q
  have e2 := frozen_of_block (off := 2) q
  have e3 := frozen_of_block (off := 3) q
  have r1 := block_setCell (off := 0) q (.int .i64 (n : Int))
  have r2 := block_setCell (off := 1) r1 (.int .i64 0)
  have r3 := block_setCell (off := 2) r2 (.int .i64 0)
  have r4 := block_setCell (off := 3) r3 (.int .i64 0)
  have R4 := Lib.hid r4
  have HB4 := Lib.hid ((((HB.out.setCell (p := ⟨w.heap.size, 0, none⟩) (Nat.le_refl _) (.int .i64 (n : Int))).setCell (p := ⟨w.heap.size, 1, none⟩) (Nat.le_refl _) (.int .i64 0)).setCell (p := ⟨w.heap.size, 2, none⟩) (Nat.le_refl _) (.int .i64 0)).setCell (p := ⟨w.heap.size, 3, none⟩) (Nat.le_refl _) (.int .i64 0))
  clear r1 r2 r3 r4 q
  go_wp2
  refine bodyPost_ret (results_cell_row1 rfl _ _ _ _ _ _ _ rfl R4.out Tryz.underlying35 rfl (by kernel_rfl)) rfl ⟨rfl, HB4.out⟩
set_option maxRecDepth 100000 in
set_option maxHeartbeats 4000000 in
theorem engLeaf_calls (h : EngIn w a D X lv rv sf ns) {room : Nat} {now disk : Recs} {log : List Value} {F : Nat → Prop} (hS : StoreAt w a.sb room now disk log D.age F) (i : Nat) (hi : i < D.L.length) :
    Calls Tryz.prog 22 #[.pointer (some ⟨a.eb, 0, none⟩), .int .i64 i] w fun r w' => r = .returned (.tuple #[.string D.L[i], .int .i64 0]) ∧ ∃ n, w' = w.drewN n := by
  have HO := Lib.hid (over_calls h hS)
  have HC := Lib.hid h.c10
  have hlen := h.ok.len
  obtain ⟨A, cap, e, hcap, hcells⟩ := h.list
  rw [List.length_map] at e hcap
  obtain ⟨b, o, rfl, hb, hX, hc⟩ := hcells (by rw [List.length_map]; omega)
  have c1 := hc i (by rw [List.length_map]; exact hi)
  rw [List.getElem_map] at c1
  obtain ⟨x, hx⟩ : ∃ x, x = D.L[i] := ⟨_, rfl⟩
  rw [← hx] at c1 ⊢
  obtain ⟨n, hn⟩ : ∃ x, x = D.L.length := ⟨_, rfl⟩
  rw [← hn] at e hcap hi hlen
  subst e
  obtain ⟨eb, sb, rb, db, ub, pb⟩ := a
  dsimp only at HO HC ⊢
  clear h hn hcap hx hcells hc hS hX
  have k1 : decide ((n : Int) ≤ (i : Int)) = false := decide_eq_false (by omega)
  have k2 : (i : Int) < (n : Int) := by omega
  go_enter Tryz.func22, Tryz.ntmps22
  go_wp2_with fail
  refine (HO.out).mono ?_
  rintro r w1 ⟨rfl, m, rfl⟩
  have c10 := HC.out
  go_wp2
  go_ret2
  exact ⟨rfl, _, rfl⟩
end
end Go.Proofs.YtblkehdpenfhjaaGreatDoor
