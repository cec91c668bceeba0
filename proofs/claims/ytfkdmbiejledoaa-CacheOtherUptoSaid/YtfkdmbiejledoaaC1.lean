/-
  use: an entry becomes the newest one.
-/
import Derived.Test.YtfkdmbiejledoaaC0
set_option linter.unusedVariables false
set_option linter.unusedSimpArgs false
namespace Go.Proofs.Ytfkdmbiejledoaa
open Go.RowKit


set_option maxHeartbeats 1000000 in
theorem useS (c m h b : Nat) (most hits misses gone : Int) (k : ByteArray) (v : ByteArray) (xs ys : List (Nat × ByteArray × ByteArray)) (w : World) (H : CRep IS w c m h most (xs ++ (b, k, v) :: ys) hits misses gone) :
    Calls Try.prog 33 #[ptr c, ptr b] w fun r w' => r = .returned (.tuple #[]) ∧ CRep IS w' c m h most ((b, k, v) :: (xs ++ ys)) hits misses gone ∧ Turn (CFp c m h (xs ++ (b, k, v) :: ys)) w w' ∧ w'.heap.size = w.heap.size := by
  have HH := Lib.hid H
  have hring : Ring 65 4 2 3 w h (xs.map (·.1) ++ b :: ys.map (·.1)) := by have := H.ring; rwa [List.map_append, List.map_cons] at this
  have HR := Lib.hid hring
  clear H hring
  go_enter Try.func33, Try.ntmps33
  go_wp2_with fail
  refine (unlinkRS h b _ _ w HR.out).mono ?_
  rintro r w1 ⟨rfl, hr1, ht1⟩
  have hN1 : ∀ i, i ∈ h :: (xs.map (·.1) ++ ys.map (·.1)) → Node 65 4 w i := fun i hi => HR.out.node i (by simp at hi ⊢; rcases hi with h1 | h1 | h1; exact .inl h1; exact .inr (.inl h1); exact .inr (.inr (.inr h1)))
  have hk1 : w1.heap[c]? = w.heap[c]? := ht1.turn.block c (block_lt HH.out.blk) (fun hf => HH.out.c_ne okS (hN1 c hf) rfl)
  have hblk1 := hk1.trans HH.out.blk
  have c2 : w1.cell? ⟨c, 2, none⟩ = some (.pointer (some ⟨h, 0, none⟩)) := cell_of_block hblk1 (by show 2 < 6; decide)
  have hnb : Node 65 4 w1 b := ht1.node b (HR.out.node b (by simp))
  have hnot : b ∉ h :: (xs.map (·.1) ++ ys.map (·.1)) := by
    exact mid_out (α := Nat) (xs := h :: xs.map fun (x : Nat × ByteArray × ByteArray) => x.1) (ys := ys.map fun (x : Nat × ByteArray × ByteArray) => x.1) (e := b) HR.out.nodup
  have HR1 := Lib.hid hr1
  have HT1 := Lib.hid ht1
  have HN1 := Lib.hid hN1
  have HNB := Lib.hid hnb
  have HNOT := Lib.hid hnot
  clear hr1 ht1 hN1 hk1 hblk1 hnb hnot
  go_wp2_with fail
  refine (linkRS h b _ w1 HR1.out HNB.out HNOT.out).mono ?_
  rintro r w2 ⟨rfl, hr2, ht2⟩
  have HR2 := Lib.hid hr2
  have HT2 := Lib.hid ht2
  clear hr2 ht2 c2
  go_wp2
  go_end0
  have H := HH.out
  have hsub : ∀ i, i ∈ b :: h :: (xs.map (·.1) ++ ys.map (·.1)) → Node 65 4 w i := by
    intro i hi
    rcases List.mem_cons.1 hi with h1 | h1
    · rw [h1]; exact HR.out.node b (by simp)
    · exact HN1.out i h1
  have hT : RTurn 65 4 2 3 (fun i => i ∈ b :: h :: (xs.map (·.1) ++ ys.map (·.1))) w w2 := (HT1.out.mono fun i hi => List.mem_cons_of_mem _ hi).trans HT2.out
  have hring2 : Ring IS.t IS.n IS.p IS.q w2 h (((b, k, v) :: (xs ++ ys)).map (·.1)) := by rw [List.map_cons, List.map_append]; exact HR2.out
  obtain ⟨r1, r2, r3, r4⟩ := H.ringed okS hsub hT (L' := (b, k, v) :: (xs ++ ys)) (by intro x hx; simp at hx ⊢; rcases hx with h1 | h1 | h1; exact .inr (.inl h1); exact .inl h1; exact .inr (.inr h1)) hring2
  obtain ⟨q1, q2, q3, q4⟩ := keys_split H.keys
  refine ⟨rfl, ⟨r1.trans H.blk, hring2, ?_, r3, r4, q4⟩, hT.turn.mono fun i hi => .inl (.inr (.inr ?_)), hT.size⟩
  · have hm := H.map.keep r2
    rw [lookL_mid okS.inj q2] at hm
    have e1 : (xs ++ (b, k, v) :: ys).length = ((b, k, v) :: (xs ++ ys)).length := by simp; omega
    rw [e1] at hm
    exact hm
  · rw [List.map_append, List.map_cons]
    simp at hi ⊢
    rcases hi with h1 | h1 | h1 | h1
    · exact .inr (.inr (.inl h1))
    · exact .inl h1
    · exact .inr (.inl h1)
    · exact .inr (.inr (.inr h1))

set_option maxHeartbeats 1000000 in
theorem useP (c m h b : Nat) (most hits misses gone : Int) (k : Int) (v : (ByteArray × Int)) (xs ys : List (Nat × Int × (ByteArray × Int))) (w : World) (H : CRep IP w c m h most (xs ++ (b, k, v) :: ys) hits misses gone) :
    Calls Try.prog 56 #[ptr c, ptr b] w fun r w' => r = .returned (.tuple #[]) ∧ CRep IP w' c m h most ((b, k, v) :: (xs ++ ys)) hits misses gone ∧ Turn (CFp c m h (xs ++ (b, k, v) :: ys)) w w' ∧ w'.heap.size = w.heap.size := by
  have HH := Lib.hid H
  have hring : Ring 95 5 3 4 w h (xs.map (·.1) ++ b :: ys.map (·.1)) := by have := H.ring; rwa [List.map_append, List.map_cons] at this
  have HR := Lib.hid hring
  clear H hring
  go_enter Try.func56, Try.ntmps56
  go_wp2_with fail
  refine (unlinkRP h b _ _ w HR.out).mono ?_
  rintro r w1 ⟨rfl, hr1, ht1⟩
  have hN1 : ∀ i, i ∈ h :: (xs.map (·.1) ++ ys.map (·.1)) → Node 95 5 w i := fun i hi => HR.out.node i (by simp at hi ⊢; rcases hi with h1 | h1 | h1; exact .inl h1; exact .inr (.inl h1); exact .inr (.inr (.inr h1)))
  have hk1 : w1.heap[c]? = w.heap[c]? := ht1.turn.block c (block_lt HH.out.blk) (fun hf => HH.out.c_ne okP (hN1 c hf) rfl)
  have hblk1 := hk1.trans HH.out.blk
  have c2 : w1.cell? ⟨c, 2, none⟩ = some (.pointer (some ⟨h, 0, none⟩)) := cell_of_block hblk1 (by show 2 < 6; decide)
  have hnb : Node 95 5 w1 b := ht1.node b (HR.out.node b (by simp))
  have hnot : b ∉ h :: (xs.map (·.1) ++ ys.map (·.1)) := by
    exact mid_out (α := Nat) (xs := h :: xs.map fun (x : Nat × Int × (ByteArray × Int)) => x.1) (ys := ys.map fun (x : Nat × Int × (ByteArray × Int)) => x.1) (e := b) HR.out.nodup
  have HR1 := Lib.hid hr1
  have HT1 := Lib.hid ht1
  have HN1 := Lib.hid hN1
  have HNB := Lib.hid hnb
  have HNOT := Lib.hid hnot
  clear hr1 ht1 hN1 hk1 hblk1 hnb hnot
  go_wp2_with fail
  refine (linkRP h b _ w1 HR1.out HNB.out HNOT.out).mono ?_
  rintro r w2 ⟨rfl, hr2, ht2⟩
  have HR2 := Lib.hid hr2
  have HT2 := Lib.hid ht2
  clear hr2 ht2 c2
  go_wp2
  go_end0
  have H := HH.out
  have hsub : ∀ i, i ∈ b :: h :: (xs.map (·.1) ++ ys.map (·.1)) → Node 95 5 w i := by
    intro i hi
    rcases List.mem_cons.1 hi with h1 | h1
    · rw [h1]; exact HR.out.node b (by simp)
    · exact HN1.out i h1
  have hT : RTurn 95 5 3 4 (fun i => i ∈ b :: h :: (xs.map (·.1) ++ ys.map (·.1))) w w2 := (HT1.out.mono fun i hi => List.mem_cons_of_mem _ hi).trans HT2.out
  have hring2 : Ring IP.t IP.n IP.p IP.q w2 h (((b, k, v) :: (xs ++ ys)).map (·.1)) := by rw [List.map_cons, List.map_append]; exact HR2.out
  obtain ⟨r1, r2, r3, r4⟩ := H.ringed okP hsub hT (L' := (b, k, v) :: (xs ++ ys)) (by intro x hx; simp at hx ⊢; rcases hx with h1 | h1 | h1; exact .inr (.inl h1); exact .inl h1; exact .inr (.inr h1)) hring2
  obtain ⟨q1, q2, q3, q4⟩ := keys_split H.keys
  refine ⟨rfl, ⟨r1.trans H.blk, hring2, ?_, r3, r4, q4⟩, hT.turn.mono fun i hi => .inl (.inr (.inr ?_)), hT.size⟩
  · have hm := H.map.keep r2
    rw [lookL_mid okP.inj q2] at hm
    have e1 : (xs ++ (b, k, v) :: ys).length = ((b, k, v) :: (xs ++ ys)).length := by simp; omega
    rw [e1] at hm
    exact hm
  · rw [List.map_append, List.map_cons]
    simp at hi ⊢
    rcases hi with h1 | h1 | h1 | h1
    · exact .inr (.inr (.inl h1))
    · exact .inl h1
    · exact .inr (.inl h1)
    · exact .inr (.inr (.inr h1))
end Go.Proofs.Ytfkdmbiejledoaa
