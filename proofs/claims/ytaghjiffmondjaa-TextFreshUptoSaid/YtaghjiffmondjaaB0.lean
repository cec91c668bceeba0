/-
  Shared words for the walks of package text: blocks, cells, the closures' driver 'each', the tables.
-/
import Derived.Test.YtaghjiffmondjaaProg
import Derived.WalkKit
import Derived.WalkSpells
import Derived.WalkLawsBesides
import Derived.StillTailTactics
import Derived.Deep.LoopGhost
import Derived.Deep.QuietTactic
import Derived.BigQuiet
import Derived.Lib.Hide
import Derived.Deep.OwnRows
import Derived.Lib.ConvBytes
import Derived.Laws.CopyOwn
import Derived.RegionTactic
set_option linter.unusedVariables false
set_option linter.unusedSimpArgs false
namespace Go.Proofs.Ytaghjiffmondjaa
open Go.RowKit
/-- each: the closure F (captured: cap) on each byte, as long as it says true; I i: what holds ahead of byte i; S: what holds behind a false. -/
theorem each_any (F : Nat) (cap : Array Value) (s : ByteArray) (hs : s.size ≤ maxLen) (I : Nat → World → Prop) (S : Nat → World → Prop)
    (hcall : ∀ args w, (callFunc F args).run Try.prog w = .ok (.enter F args) w)
    (hF : ∀ (i : Nat) (hi : i < s.size) (w : World), I i w → Calls Try.prog F (#[.int .u8 (s[i].toNat : Int)] ++ cap) w fun e w' => ∃ b, e = .returned (.bool b) ∧ (b = true → I (i + 1) w') ∧ (b = false → S i w'))
    (w : World) (h0 : I 0 w) :
    Calls Try.prog 43 #[.string s, .func (.func F) #[] cap] w fun e w' => (e = .returned (.bool true) ∧ I s.size w') ∨ (e = .returned (.bool false) ∧ ∃ i, i < s.size ∧ S i w') := by
  have H0 := Lib.hid h0
  have HF := Lib.hid hF
  clear h0 hF
  unfold maxLen at hs
  go_enter Try.func43, Try.ntmps43
  go_wp2
  go_loopw [5] (fun v wr => ∃ k : Nat, k ≤ s.size ∧ v = .int .i64 k ∧ Hid (I k wr)) (fun v _ => s.size - (intOf v).toNat)
  case atStart => exact ⟨0, Nat.zero_le _, rfl, H0⟩
  case round =>
    obtain ⟨k, hk, rfl, HI⟩ := hrel
    by_cases hlt : k < s.size
    · go_wp2_with fail
      refine (HF.out k hlt _ HI.out).mono ?_
      rintro e w' ⟨b, rfl, hb1, hb2⟩
      cases b
      · have h2 := Lib.hid (hb2 rfl)
        clear hb1 hb2
        go_wp2
        go_ret
        exact Or.inr ⟨rfl, k, hlt, h2.out⟩
      · have h2 := Lib.hid (hb1 rfl)
        clear hb1 hb2
        go_wp2
        go_roundw
        case rel => exact ⟨k + 1, by omega, by go_num, h2⟩
        case measure => simp [intOf]; omega
    · obtain rfl : k = s.size := by omega
      go_wp2
      go_ret
      exact Or.inl ⟨rfl, HI.out⟩

/-- the table after k letters, over a table of n places -/
def tabN (n : Nat) (l : List UInt8) : Nat → List Value
  | 0 => List.replicate n (.int .u8 0)
  | k + 1 => (tabN n l k).set (l.getD k 0).toNat (.int .u8 (k + 1 : Nat))
theorem tabN_length (n : Nat) (l : List UInt8) (k : Nat) : (tabN n l k).length = n := by
  induction k with
  | zero => simp [tabN]
  | succ k ih => simp [tabN, ih]
theorem tabN_one (n : Nat) (l : List UInt8) (k : Nat) : ∀ v ∈ tabN n l k, v.oneCell' = true := by
  induction k with
  | zero => intro v hv; simp only [tabN] at hv; rw [List.eq_of_mem_replicate hv]; rfl
  | succ k ih =>
    intro v hv
    simp only [tabN] at hv
    rcases List.mem_or_eq_of_mem_set hv with h | h
    · exact ih v h
    · subst h; rfl
def tabA (s : ByteArray) (k : Nat) : Array Value := (tabN 256 s.data.toList k).toArray
theorem tabA_size (s : ByteArray) (k : Nat) : (tabA s k).size = 256 := by
  rw [tabA, List.size_toArray, tabN_length]
def zerosN (n : Nat) : Array Value := (List.replicate n (.int .u8 0)).toArray
def zeros256 : Array Value := zerosN 256
theorem zero62 (w : World) : (zeroValue 62).run Try.prog w = .ok (.agg zeros256) w := by kernel_rfl
theorem tabA_zero (s : ByteArray) : tabA s 0 = zeros256 := rfl
theorem tabA_succ (s : ByteArray) (k : Nat) (h : k < s.size) : tabA s (k + 1) = (tabA s k).setIfInBounds s[k].toNat (.int .u8 ((k : Int) + 1)) := by
  have e : s.data.toList.getD k 0 = s[k] := by
    simp [List.getD, h]; rfl
  unfold tabA
  rw [tabN, e]
  simp

theorem block_setCell {w : World} {b off : Nat} {c : Array Value} {t : TypeId} (h : w.heap[b]? = some (.cells c t (0, 0))) (v : Value) :
    (w.setCell ⟨b, off, none⟩ v).heap[b]? = some (.cells (c.setIfInBounds off v) t (0, 0)) := by
  have hlt := (Array.getElem?_eq_some_iff.1 h).1
  unfold World.setCell
  simp [Array.getElem?_modify, h]
theorem block_setCell_other {w : World} {b b' off : Nat} {o : Obj} (h : w.heap[b]? = some o) (hne : b' ≠ b) (v : Value) :
    (w.setCell ⟨b', off, none⟩ v).heap[b]? = some o := by
  unfold World.setCell
  simp [Array.getElem?_modify, hne, h]
theorem cell_of_block {w : World} {b off : Nat} {c : Array Value} {t : TypeId} (h : w.heap[b]? = some (.cells c t (0, 0))) (ho : off < c.size) : w.cell? ⟨b, off, none⟩ = some c[off] := by
  simp [World.cell?, h, ho]
theorem frozen_of_block {w : World} {b off : Nat} {c : Array Value} {t : TypeId} (h : w.heap[b]? = some (.cells c t (0, 0))) : w.frozen? ⟨b, off, none⟩ = false := by
  simp [World.frozen?, h]

set_option maxRecDepth 100000 in
theorem tab (s : ByteArray) (w : World) (hs : s.size ≤ 64) :
    Calls Try.prog 50 #[.string s] w fun e w' => e = .returned (.agg (tabA s s.size)) ∧ Below w.heap.size w w' := by
  have hz := zero62
  have hm : (64 : Nat) ≤ maxLen := by unfold maxLen; omega
  clear hm
  have hb0 : Below w.heap.size w ((w.alloc (.cells zeros256 62)).alloc (.cells zeros256 62)) := ((Below.refl _ _).alloc (Nat.le_refl _) _).alloc (by simp) _
  have hB1 : ((w.alloc (.cells zeros256 62)).alloc (.cells zeros256 62)).heap[w.heap.size]? = some (.cells zeros256 62 (0, 0)) := by
    rw [heap_alloc_old _ _ (by simp)]; exact heap_alloc_new _ _
  have hB2 : ((w.alloc (.cells zeros256 62)).alloc (.cells zeros256 62)).heap[w.heap.size + 1]? = some (.cells zeros256 62 (0, 0)) := heap_alloc2_new _ _ _
  have hz0 := tabA_zero s
  rw [← hz0] at hB2
  have HB1 := Lib.hid hB1
  have HB2 := Lib.hid hB2
  have HZ0 := Lib.hid hz0
  have HB0 := Lib.hid hb0
  clear hB1 hB2 hz0 hb0
  go_enter Try.func50, Try.ntmps50
  go_wp2
  go_loopw [4] (fun v wr => ∃ k : Nat, k ≤ s.size ∧ v = .int .i64 k ∧ Hid (wr.heap[w.heap.size]? = some (.cells zeros256 62 (0, 0))) ∧ Hid (wr.heap[w.heap.size + 1]? = some (.cells (tabA s k) 62 (0, 0))) ∧ Hid (Below w.heap.size w wr)) (fun v _ => s.size - (intOf v).toNat)
  case atStart => exact ⟨0, Nat.zero_le _, rfl, HB1, HB2, HB0⟩
  case round =>
    clear HB1 HB2 HB0
    obtain ⟨k, hk, rfl, HB1, HB2, HB0⟩ := hrel
    by_cases hlt : k < s.size
    · have hc : s[k].toNat < 256 := s[k].toNat_lt
      have hcell := cell_of_block (off := s[k].toNat) HB2.out (by rw [tabA_size]; exact hc)
      have hfr := frozen_of_block (off := s[k].toNat) HB2.out
      go_wp2
      go_roundw
      case rel => exact ⟨k + 1, by omega, by go_num, Lib.hid (block_setCell_other HB1.out (by omega) _), Lib.hid (by rw [tabA_succ s k hlt]; exact block_setCell HB2.out _), Lib.hid (HB0.out.setCell (by simp) _)⟩
      case measure => simp [intOf]; omega
    · obtain rfl : k = s.size := by omega
      have h1 : (tabA s s.size).all (·.oneCell') = true := by
        rw [tabA]; simpa using tabN_one 256 s.data.toList s.size
      have hsz : (Try.prog.info? 62).map (·.size) = some (tabA s s.size).size := by rw [tabA_size]; kernel_rfl
      have hsz2 : zeros256.size = (tabA s s.size).size := by rw [tabA_size]; simp [zeros256, zerosN]
      have hfin := setRow_heap wr w.heap.size zeros256 (tabA s s.size) 62 _ HB1.out
      have hb := below_setRow HB0.out (Nat.le_refl _) (tabA s s.size)
      have H1 := Lib.hid h1
      have H2 := Lib.hid hsz
      have H3 := Lib.hid hsz2
      have H4 := Lib.hid hfin
      have H5 := Lib.hid hb
      clear h1 hsz hsz2 hfin hb
      go_wp2_with (first | (refine wpList_load_row rfl 62 _ rfl _ rfl 62 _ _ _ HB2.out Try.underlying62 rfl H2.out ?_) | (refine wpList_store_row rfl 62 _ _ rfl _ _ rfl rfl 62 _ HB1.out H2.out H3.out H1.out ?_))
      refine bodyPost_ret (results_cell_row rfl _ _ _ _ _ _ _ rfl H4.out Try.underlying62 rfl H2.out) rfl ⟨rfl, H5.out⟩
end Go.Proofs.Ytaghjiffmondjaa
