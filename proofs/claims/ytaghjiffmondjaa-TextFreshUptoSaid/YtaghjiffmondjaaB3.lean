/-
  text.digits: what it answers of every text, by a table and a number of bits.
-/
import Derived.Test.YtaghjiffmondjaaB2
import Derived.Laws.BytesArg
set_option linter.unusedVariables false
set_option linter.unusedSimpArgs false
namespace Go.Proofs.Ytaghjiffmondjaa
open Go.RowKit

theorem own_string {w : World} {B : Nat} {v : Value} {xs : List UInt8} (h : w.ownsRow B 5 1 v xs.length (xs.map bv)) :
    (convert 52 9 v).run Try.prog w = .ok (.string ⟨xs.toArray⟩) w := by
  rcases h.2 with ⟨rfl, h0⟩ | ⟨g, cap, cur, rfl, hb, hg, hn, hm, hs, ht⟩
  · have : xs = [] := List.eq_nil_of_length_eq_zero h0
    subst this
    exact run_convert_bytes_nil w 52 5 Try.underlying52 Try.underlying5 0 0 9 Try.underlying9
  · have hr := run_convert_bytes_arg (P := Try.prog) w 52 5 Try.underlying52 Try.underlying5 g 0 xs.length cap (xs.map fun c => (c.toNat : Int)) (by simp) (fun i hi => by
      have hu : (xs.map bv)[i]? = some (bv xs[i]) := by simp [hi]
      have := h.cells (g := g) rfl i _ hu
      rw [Addr.add_lit] at this
      simp only [Nat.zero_add] at this ⊢
      rw [this]
      simp [bv, List.getD, hi]) 9 Try.underlying9
    rw [hr]
    congr 2
    have e : strOfNums (xs.map fun c => (c.toNat : Int)) = ⟨xs.toArray⟩ := by
      unfold strOfNums
      congr 2
      rw [List.map_map]
      conv => rhs; rw [← List.map_id xs]
      apply List.map_congr_left
      intro c _
      simp
    rw [e]

/-- one more digit of so many bits: what is held, how many bits, what came out -/
def digStep (bits : Nat) (s : Nat × Nat × List UInt8) (d : Nat) : Nat × Nat × List UInt8 :=
  if s.2.1 + bits < 8 then (s.1 * 2 ^ bits + (d - 1), s.2.1 + bits, s.2.2)
  else ((s.1 * 2 ^ bits + (d - 1)) % 2 ^ (s.2.1 + bits - 8), s.2.1 + bits - 8, s.2.2 ++ [UInt8.ofNat ((s.1 * 2 ^ bits + (d - 1)) / 2 ^ (s.2.1 + bits - 8))])
def digRun (bits : Nat) (tb : UInt8 → Nat) (l : List UInt8) : Nat × Nat × List UInt8 := l.foldl (fun s c => digStep bits s (tb c)) (0, 0, [])
def digGood (bits : Nat) (s : Nat × Nat × List UInt8) : Prop := s.2.1 < 8 ∧ s.1 < 2 ^ s.2.1
theorem digStep_good {bits : Nat} (hb : bits = 4 ∨ bits = 6) {s : Nat × Nat × List UInt8} (h : digGood bits s) {d : Nat} (h0 : 0 < d) (hd : d ≤ 2 ^ bits) : digGood bits (digStep bits s d) := by
  unfold digStep digGood at *
  split
  · rename_i hlt
    refine ⟨hlt, ?_⟩
    simp only
    rw [Nat.pow_add]
    have h1 := Nat.mul_le_mul_right (2 ^ bits) (show s.1 + 1 ≤ 2 ^ s.2.1 from h.2)
    rw [Nat.add_mul] at h1
    omega
  · refine ⟨?_, Nat.mod_lt _ (Nat.two_pow_pos _)⟩
    simp only
    omega
theorem digStep_len {bits : Nat} {s : Nat × Nat × List UInt8} {d : Nat} : (digStep bits s d).2.2.length ≤ s.2.2.length + 1 := by
  unfold digStep; split <;> simp
theorem digRun_snoc (bits : Nat) (tb : UInt8 → Nat) (l : List UInt8) (c : UInt8) : digRun bits tb (l ++ [c]) = digStep bits (digRun bits tb l) (tb c) := by
  unfold digRun; rw [List.foldl_append]; rfl
theorem take_snoc (s : ByteArray) (k : Nat) (h : k < s.size) : s.data.toList.take (k + 1) = s.data.toList.take k ++ [s[k]] := by
  rw [List.take_succ_eq_append_getElem (by simpa using h)]; rfl

def DigI (bits : Nat) (tb : UInt8 → Nat) (T : Array Value) (s : ByteArray) (w0 : World) (i : Nat) (w : World) : Prop :=
  ∃ v, (∀ c ∈ s.data.toList.take i, tb c ≠ 0) ∧ digGood bits (digRun bits tb (s.data.toList.take i)) ∧ (digRun bits tb (s.data.toList.take i)).2.2.length ≤ i ∧
    DigW w0.heap.size T bits (digRun bits tb (s.data.toList.take i)).1 (digRun bits tb (s.data.toList.take i)).2.1 (digRun bits tb (s.data.toList.take i)).2.2 w v ∧ Below w0.heap.size w0 w
/-- at a byte that is no digit -/
def DigS (bits : Nat) (tb : UInt8 → Nat) (s : ByteArray) (w0 : World) (i : Nat) (w : World) : Prop :=
  (∃ c ∈ s.data.toList, tb c = 0) ∧ ∃ v xs T h n, DigW w0.heap.size T bits h n xs w v ∧ Below w0.heap.size w0 w

theorem dig_round (bits : Nat) (hb : bits = 4 ∨ bits = 6) (tb : UInt8 → Nat) (T : Array Value) (hT : ∀ c : UInt8, T[c.toNat]? = some (.int .u8 (tb c)) ∧ tb c ≤ 2 ^ bits) (s : ByteArray) (hs : s.size ≤ 140737488351232) (w0 : World)
    (i : Nat) (hi : i < s.size) (w : World) (h : DigI bits tb T s w0 i w) :
    Calls Try.prog 55 (#[.int .u8 (s[i].toNat : Int)] ++ digPs w0.heap.size) w fun e w' => ∃ b, e = .returned (.bool b) ∧ (b = true → DigI bits tb T s w0 (i + 1) w') ∧ (b = false → DigS bits tb s w0 i w') := by
  obtain ⟨v, hall, hg, hl, hW, hB⟩ := h
  obtain ⟨hc, hd⟩ := hT s[i]
  by_cases h0 : tb s[i] = 0
  · rw [h0] at hc
    refine (dig1_no _ T w hW.tab s[i] hc).mono ?_
    rintro e w' ⟨rfl, rfl⟩
    refine ⟨false, rfl, by simp, fun _ => ⟨⟨s[i], ?_, h0⟩, v, _, T, _, _, hW, hB⟩⟩
    exact List.getElem_mem (l := s.data.toList) (by simpa using hi)
  · have hsn := take_snoc s i hi
    have hall' : ∀ c ∈ s.data.toList.take (i + 1), tb c ≠ 0 := by
      rw [hsn]; intro c hc; rcases List.mem_append.1 hc with hc | hc
      · exact hall c hc
      · simp at hc; subst hc; exact h0
    have hg' : digGood bits (digRun bits tb (s.data.toList.take (i + 1))) := by rw [hsn, digRun_snoc]; exact digStep_good hb hg (by omega) hd
    have hl' : (digRun bits tb (s.data.toList.take (i + 1))).2.2.length ≤ i + 1 := by rw [hsn, digRun_snoc]; have := @digStep_len bits (digRun bits tb (s.data.toList.take i)) (tb s[i]); omega
    by_cases hlt : (digRun bits tb (s.data.toList.take i)).2.1 + bits < 8
    · refine (dig1_less _ T bits _ _ _ w v hW s[i] (tb s[i]) (by omega) hd hc hb hg.1 hg.2 hlt).mono ?_
      rintro e w' ⟨rfl, hW', hB'⟩
      refine ⟨true, rfl, fun _ => ⟨v, hall', hg', hl', ?_, hB.trans hB'⟩, by simp⟩
      rw [hsn, digRun_snoc]
      unfold digStep
      rw [if_pos hlt]
      exact hW'
    · refine (dig1_more _ T bits _ _ _ w v hW (by omega) s[i] (tb s[i]) (by omega) hd hc hb hg.1 hg.2 (by omega)).mono ?_
      rintro e w' ⟨v', rfl, hW', hB'⟩
      refine ⟨true, rfl, fun _ => ⟨v', hall', hg', hl', ?_, hB.trans hB'⟩, by simp⟩
      rw [hsn, digRun_snoc]
      unfold digStep
      rw [if_neg hlt]
      exact hW'

theorem heap_push {w : World} (o : Obj) {n : Nat} (h : w.heap.size = n) : (w.alloc o).heap[n]? = some o := by subst h; exact heap_alloc_new w o
theorem dig_start (w : World) (T : Array Value) (bits : Nat) :
    DigW w.heap.size T bits 0 0 [] (((((w.alloc (.cells T 62)).alloc (.cells #[.int .i64 bits] 3)).alloc (.cells #[.slice none 0 0] 52)).alloc (.cells #[.int .i64 0] 3)).alloc (.cells #[.int .i64 0] 3)) (.slice none 0 0) := by
  refine ⟨?_, ?_, ?_, ?_, ?_, World.ownsRow_nil _ _ _ _⟩
  · exact heap_alloc_keep (heap_alloc_keep (heap_alloc_keep (heap_alloc_keep (heap_push _ rfl) _) _) _) _
  · exact heap_alloc_keep (heap_alloc_keep (heap_alloc_keep (heap_push _ (by simp)) _) _) _
  · exact heap_alloc_keep (heap_alloc_keep (heap_push _ (by simp)) _) _
  · exact heap_alloc_keep (heap_push _ (by simp)) _
  · exact heap_push _ (by simp)
theorem dig_start_below (w : World) (T : Array Value) (bits : Nat) :
    Below w.heap.size w (((((w.alloc (.cells T 62)).alloc (.cells #[.int .i64 bits] 3)).alloc (.cells #[.slice none 0 0] 52)).alloc (.cells #[.int .i64 0] 3)).alloc (.cells #[.int .i64 0] 3)) :=
  (((((Below.refl _ _).alloc (by simp) _).alloc (by simp) _).alloc (by simp; omega) _).alloc (by simp; omega) _).alloc (by simp; omega) _
theorem makeFunc_run (fn : Fn) (first cap : Array Value) (w : World) : (Instr.makeFunc fn first cap).run Try.prog w = .ok (.func fn first cap) w := rfl

theorem digits_calls (bits : Nat) (hb : bits = 4 ∨ bits = 6) (tb : UInt8 → Nat) (T : Array Value) (hT : ∀ c : UInt8, T[c.toNat]? = some (.int .u8 (tb c)) ∧ tb c ≤ 2 ^ bits) (s : ByteArray) (hs : s.size ≤ 140737488351232) (w : World) :
    Calls Try.prog 49 #[.string s, .agg T, .int .i64 bits] w fun e w' => ∃ r ok, e = .returned (.tuple #[.string r, .bool ok]) ∧ Below w.heap.size w w' ∧
      (ok = true → (∀ c ∈ s.data.toList, tb c ≠ 0) ∧ r = ⟨(digRun bits tb s.data.toList).2.2.toArray⟩) ∧ (ok = false → ∃ c ∈ s.data.toList, tb c = 0) := by
  have hmf := makeFunc_run
  have HT := Lib.hid hT
  have HB := Lib.hid hb
  clear hT hb
  have hsm : s.size ≤ maxLen := by unfold maxLen; omega
  go_enter Try.func49, Try.ntmps49
  go_wp2_with fail
  have H0 := dig_start w T bits
  have hB0 := dig_start_below w T bits
  generalize (((((w.alloc (.cells T 62)).alloc (.cells #[.int .i64 bits] 3)).alloc (.cells #[.slice none 0 0] 52)).alloc (.cells #[.int .i64 0] 3)).alloc (.cells #[.int .i64 0] 3)) = w0 at H0 hB0 ⊢
  refine (each_any 55 (digPs w.heap.size) s hsm (DigI bits tb T s w) (DigS bits tb s w) (fun _ _ => rfl) (fun i hi w' h => dig_round bits HB.out tb T HT.out s hs w i hi w' h) w0 ⟨_, by simp, ⟨by show (0 : Nat) < 8; decide, by show (0 : Nat) < 2 ^ 0; decide⟩, Nat.le_refl _, H0, hB0⟩).mono ?_
  rintro e w1 h1
  obtain ⟨v, xs, Tx, hx, nx, hW1, hB1, hres⟩ : ∃ v xs Tx hx nx, DigW w.heap.size Tx bits hx nx xs w1 v ∧ Below w.heap.size w w1 ∧
      ((e = .returned (.bool true) ∧ (∀ c ∈ s.data.toList, tb c ≠ 0) ∧ xs = (digRun bits tb s.data.toList).2.2) ∨ (e = .returned (.bool false) ∧ ∃ c ∈ s.data.toList, tb c = 0)) := by
    rcases h1 with ⟨he, v, hall, _, _, hW, hB⟩ | ⟨he, i, hi, hex, v, xs, T', h, n, hW, hB⟩
    · rw [List.take_of_length_le (by simp)] at hall hW
      exact ⟨v, _, _, _, _, hW, hB, .inl ⟨he, hall, rfl⟩⟩
    · exact ⟨v, xs, T', h, n, hW, hB, .inr ⟨he, hex⟩⟩
  have hconv := own_string hW1.owns
  have c2 : w1.cell? ⟨w.heap.size + 1 + 1, 0, none⟩ = some v := by
    have := hW1.out
    simp [World.cell?, this]
  have HW1 := Lib.hid hW1
  have HR := Lib.hid hres
  have HB1 := Lib.hid hB1
  clear h1 H0 hB0 hW1 hres hB1
  obtain ⟨b, hb⟩ : ∃ b, e = .returned (.bool b) := by rcases HR.out with ⟨h, _⟩ | ⟨h, _⟩ <;> exact ⟨_, h⟩
  subst hb
  go_wp2
  go_ret2
  refine ⟨_, b, rfl, HB1.out, fun hb => ?_, fun hb => ?_⟩
  · rcases HR.out with ⟨_, h1, h2⟩ | ⟨h, _⟩
    · exact ⟨h1, by rw [h2]⟩
    · rw [hb] at h; injection h with h; injection h with h; cases h
  · rcases HR.out with ⟨h, _⟩ | ⟨_, h⟩
    · rw [hb] at h; injection h with h; injection h with h; cases h
    · exact h
end Go.Proofs.Ytaghjiffmondjaa
