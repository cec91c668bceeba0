/-
  forget: an entry is taken out.
-/
import Derived.Test.YtfkdmbiejledoaaC1
set_option linter.unusedVariables false
set_option linter.unusedSimpArgs false
namespace Go.Proofs.Ytfkdmbiejledoaa
open Go.RowKit

theorem mem_snoc {α : Type} {l : List α} {h x : α} (hx : x ∈ l ++ [h]) : x ∈ h :: l := by
  rcases List.mem_append.1 hx with h1 | h1
  · exact List.mem_cons_of_mem _ h1
  · rw [List.mem_singleton.1 h1]; simp

theorem kdS : Go.Maps.Keyed Try.prog 9 := okS.key
theorem zpS (w : World) : (zeroValue 63).run Try.prog w = .ok (.pointer none) w := by kernel_rfl
set_option maxHeartbeats 2000000 in
set_option maxRecDepth 100000 in
theorem forgetS (c m h b : Nat) (most hits misses gone : Int) (k : ByteArray) (v : ByteArray) (xs ys : List (Nat × ByteArray × ByteArray)) (w : World) (H : CRep IS w c m h most (xs ++ (b, k, v) :: ys) hits misses gone)
    (hkey : keyOf Try.prog 9 (IS.kv k) = some (IS.kl k)) :
    Calls Try.prog 34 #[ptr c, ptr b] w fun r w' => r = .returned (.tuple #[]) ∧ CRep IS w' c m h most (xs ++ ys) hits misses gone ∧ Turn (CFp c m h (xs ++ (b, k, v) :: ys)) w w' ∧ w'.heap.size = w.heap.size := by
  have HH := Lib.hid H
  have hring : Ring 65 4 2 3 w h (xs.map (·.1) ++ b :: ys.map (·.1)) := by have := H.ring; rwa [List.map_append, List.map_cons] at this
  have HR := Lib.hid hring
  have HK := Lib.hid hkey
  clear H hring hkey
  go_enter Try.func34, Try.ntmps34
  go_wp2_with fail
  refine (unlinkRS h b _ _ w HR.out).mono ?_
  rintro r w1 ⟨rfl, hr1, ht1⟩
  have hN1 : ∀ i, i ∈ h :: (xs.map (·.1) ++ ys.map (·.1)) → Node 65 4 w i := fun i hi => HR.out.node i (by simp at hi ⊢; rcases hi with h1 | h1 | h1; exact .inl h1; exact .inr (.inl h1); exact .inr (.inr (.inr h1)))
  have hring2 : Ring IS.t IS.n IS.p IS.q w1 h ((xs ++ ys).map (·.1)) := by rw [List.map_append]; exact hr1
  obtain ⟨r1, r2, r3, r4⟩ := HH.out.ringed okS hN1 ht1 (L' := xs ++ ys) (by intro x hx; simp at hx ⊢; rcases hx with h1 | h1; exact .inl h1; exact .inr (.inr h1)) hring2
  have c1 : w1.cell? ⟨c, 1, none⟩ = some (.map (some m)) := cell_of_block (r1.trans HH.out.blk) (by show 1 < 6; decide)
  have c0 : w1.cell? ⟨b, 0, none⟩ = some (Value.string k) := by
    rw [ht1.cell b 0 (by decide) (by decide)]
    exact HH.out.key (b, k, v) (by simp)
  have hm := HH.out.map.keep r2
  rw [lookL_mid okS.inj (keys_split HH.out.keys).2.1] at hm
  have HM := Lib.hid (show MapF Try.prog 9 w1 m _ _ from hm)
  have H2 := Lib.hid hring2
  have HT := Lib.hid ht1
  have HR1 := Lib.hid r1
  have HR3 := Lib.hid r3
  have HR4 := Lib.hid r4
  have HN1 := Lib.hid hN1
  clear hr1 ht1 hN1 hring2 r1 r2 r3 r4 hm
  go_wp2_with fail
  refine wp_region_ord (fun w' => w'.cell? ⟨c, 1, none⟩ = some (.map (some m)) ∧ w'.cell? ⟨b, 0, none⟩ = some (Value.string k)) [(0, false), (1, false), (2, false), (3, false), (4, false), (5, false), (6, false), (7, false), (8, true)] (by kernel_rfl) (by kernel_rfl) (fun _ _ d _ _ h => by cases d <;> exact h) ⟨c1, c0⟩ ?_
  iterate 8
    refine heldL ?_ ?_ (by rfl) (by rfl) (fun w' s1 => ?_) ?_ ?_
    rotate_left 2
    focus (obtain ⟨s1, s2⟩ := s1; go_simp; exact rfl)
    focus (go_simp; exact rfl)
  refine actL (by kernel_rfl) (by rfl) (by rfl) (fun K hK => ?_)
  refine wp_mapF_delete (.tmp 9) (.tmp 13) 62 9 (by rfl) 63 kdS Try.underlying62 m _ _ (by rfl) (HM.out.keep (show w1.drew.heap[m]? = w1.heap[m]? from rfl)) (Value.string k) (IS.kl k) (by rfl) HK.out ?_
  intro w2 hm2 htu
  refine hK _ _ ?_
  clear hK
  refine nilL ?_
  go_wp2
  go_end0
  obtain ⟨q1, q2, q3, q4⟩ := keys_split HH.out.keys
  have e0 : updF (lookL IS.kl (xs ++ ys)) (IS.kl k) (some (ptr b)) (IS.kl k) = some (ptr b) := updF_same _ _ _
  rw [e0] at hm2
  rw [show ∀ n, less (some (ptr b)) n = n - 1 from fun _ => rfl] at hm2
  rw [updF_twice, updF_none _ _ (lookL_none okS.inj q1)] at hm2
  have hkeep : ∀ i, i ≠ m → w2.heap[i]? = w1.heap[i]? := fun i hi => mapTurned_other htu hi
  have hcm := HH.out.c_ne_m
  have hnm : ∀ i, i ∈ h :: (xs ++ ys).map (·.1) → i ≠ m := fun i hi => HH.out.m_ne (HN1.out i (by rwa [List.map_append] at hi))
  have hcell : ∀ i o, i ∈ h :: (xs ++ ys).map (·.1) → w2.cell? ⟨i, o, none⟩ = w1.cell? ⟨i, o, none⟩ := fun i o hi => World.cell?_of_block (w := w1) (hkeep i (hnm i hi))
  refine ⟨rfl, ⟨(hkeep c hcm).trans (HR1.out.trans HH.out.blk), ⟨H2.out.nodup, fun i hi => (H2.out.node i hi).keep (hkeep i (hnm i hi)), H2.out.chain.congr (fun x hx => hcell x _ hx) (fun x hx => hcell x _ (mem_snoc hx))⟩, ?_, fun x hx => (hcell _ _ (List.mem_cons_of_mem _ (List.mem_map_of_mem hx))).trans (HR3.out x hx), fun x hx j u hu => (hcell _ _ (List.mem_cons_of_mem _ (List.mem_map_of_mem hx))).trans (HR4.out x hx j u hu), q3⟩, ?_, ?_⟩
  · have e1 : (xs ++ (b, k, v) :: ys).length - 1 = (xs ++ ys).length := by simp
    rw [e1] at hm2
    exact hm2
  · refine (Turn.map (HT.out.turn.drew.mono fun i hi => .inl ?_) htu (.inl (.inr (.inl rfl))))
    rcases List.mem_cons.1 hi with h1 | h1
    · exact .inr (.inr (by rw [h1]; simp))
    · refine .inr (.inr (List.mem_cons_of_mem _ ?_))
      rw [List.map_append, List.map_cons]
      rcases List.mem_append.1 h1 with h2 | h2
      · exact List.mem_append_left _ h2
      · exact List.mem_append_right _ (List.mem_cons_of_mem _ h2)
  · rw [mapTurned_size htu]; exact HT.out.size

theorem kdP : Go.Maps.Keyed Try.prog 3 := okP.key
theorem zpP (w : World) : (zeroValue 93).run Try.prog w = .ok (.pointer none) w := by kernel_rfl
set_option maxHeartbeats 2000000 in
set_option maxRecDepth 100000 in
theorem forgetP (c m h b : Nat) (most hits misses gone : Int) (k : Int) (v : (ByteArray × Int)) (xs ys : List (Nat × Int × (ByteArray × Int))) (w : World) (H : CRep IP w c m h most (xs ++ (b, k, v) :: ys) hits misses gone)
    (hkey : keyOf Try.prog 3 (IP.kv k) = some (IP.kl k)) :
    Calls Try.prog 57 #[ptr c, ptr b] w fun r w' => r = .returned (.tuple #[]) ∧ CRep IP w' c m h most (xs ++ ys) hits misses gone ∧ Turn (CFp c m h (xs ++ (b, k, v) :: ys)) w w' ∧ w'.heap.size = w.heap.size := by
  have HH := Lib.hid H
  have hring : Ring 95 5 3 4 w h (xs.map (·.1) ++ b :: ys.map (·.1)) := by have := H.ring; rwa [List.map_append, List.map_cons] at this
  have HR := Lib.hid hring
  have HK := Lib.hid hkey
  clear H hring hkey
  go_enter Try.func57, Try.ntmps57
  go_wp2_with fail
  refine (unlinkRP h b _ _ w HR.out).mono ?_
  rintro r w1 ⟨rfl, hr1, ht1⟩
  have hN1 : ∀ i, i ∈ h :: (xs.map (·.1) ++ ys.map (·.1)) → Node 95 5 w i := fun i hi => HR.out.node i (by simp at hi ⊢; rcases hi with h1 | h1 | h1; exact .inl h1; exact .inr (.inl h1); exact .inr (.inr (.inr h1)))
  have hring2 : Ring IP.t IP.n IP.p IP.q w1 h ((xs ++ ys).map (·.1)) := by rw [List.map_append]; exact hr1
  obtain ⟨r1, r2, r3, r4⟩ := HH.out.ringed okP hN1 ht1 (L' := xs ++ ys) (by intro x hx; simp at hx ⊢; rcases hx with h1 | h1; exact .inl h1; exact .inr (.inr h1)) hring2
  have c1 : w1.cell? ⟨c, 1, none⟩ = some (.map (some m)) := cell_of_block (r1.trans HH.out.blk) (by show 1 < 6; decide)
  have c0 : w1.cell? ⟨b, 0, none⟩ = some (Value.int .i64 k) := by
    rw [ht1.cell b 0 (by decide) (by decide)]
    exact HH.out.key (b, k, v) (by simp)
  have hm := HH.out.map.keep r2
  rw [lookL_mid okP.inj (keys_split HH.out.keys).2.1] at hm
  have HM := Lib.hid (show MapF Try.prog 3 w1 m _ _ from hm)
  have H2 := Lib.hid hring2
  have HT := Lib.hid ht1
  have HR1 := Lib.hid r1
  have HR3 := Lib.hid r3
  have HR4 := Lib.hid r4
  have HN1 := Lib.hid hN1
  clear hr1 ht1 hN1 hring2 r1 r2 r3 r4 hm
  go_wp2_with fail
  refine wp_region_ord (fun w' => w'.cell? ⟨c, 1, none⟩ = some (.map (some m)) ∧ w'.cell? ⟨b, 0, none⟩ = some (Value.int .i64 k)) [(0, false), (1, false), (2, false), (3, false), (4, false), (5, false), (6, false), (7, false), (8, true)] (by kernel_rfl) (by kernel_rfl) (fun _ _ d _ _ h => by cases d <;> exact h) ⟨c1, c0⟩ ?_
  iterate 8
    refine heldL ?_ ?_ (by rfl) (by rfl) (fun w' s1 => ?_) ?_ ?_
    rotate_left 2
    focus (obtain ⟨s1, s2⟩ := s1; go_simp; exact rfl)
    focus (go_simp; exact rfl)
  refine actL (by kernel_rfl) (by rfl) (by rfl) (fun K hK => ?_)
  refine wp_mapF_delete (.tmp 9) (.tmp 13) 92 3 (by rfl) 93 kdP Try.underlying92 m _ _ (by rfl) (HM.out.keep (show w1.drew.heap[m]? = w1.heap[m]? from rfl)) (Value.int .i64 k) (IP.kl k) (by rfl) HK.out ?_
  intro w2 hm2 htu
  refine hK _ _ ?_
  clear hK
  refine nilL ?_
  go_wp2
  go_end0
  obtain ⟨q1, q2, q3, q4⟩ := keys_split HH.out.keys
  have e0 : updF (lookL IP.kl (xs ++ ys)) (IP.kl k) (some (ptr b)) (IP.kl k) = some (ptr b) := updF_same _ _ _
  rw [e0] at hm2
  rw [show ∀ n, less (some (ptr b)) n = n - 1 from fun _ => rfl] at hm2
  rw [updF_twice, updF_none _ _ (lookL_none okP.inj q1)] at hm2
  have hkeep : ∀ i, i ≠ m → w2.heap[i]? = w1.heap[i]? := fun i hi => mapTurned_other htu hi
  have hcm := HH.out.c_ne_m
  have hnm : ∀ i, i ∈ h :: (xs ++ ys).map (·.1) → i ≠ m := fun i hi => HH.out.m_ne (HN1.out i (by rwa [List.map_append] at hi))
  have hcell : ∀ i o, i ∈ h :: (xs ++ ys).map (·.1) → w2.cell? ⟨i, o, none⟩ = w1.cell? ⟨i, o, none⟩ := fun i o hi => World.cell?_of_block (w := w1) (hkeep i (hnm i hi))
  refine ⟨rfl, ⟨(hkeep c hcm).trans (HR1.out.trans HH.out.blk), ⟨H2.out.nodup, fun i hi => (H2.out.node i hi).keep (hkeep i (hnm i hi)), H2.out.chain.congr (fun x hx => hcell x _ hx) (fun x hx => hcell x _ (mem_snoc hx))⟩, ?_, fun x hx => (hcell _ _ (List.mem_cons_of_mem _ (List.mem_map_of_mem hx))).trans (HR3.out x hx), fun x hx j u hu => (hcell _ _ (List.mem_cons_of_mem _ (List.mem_map_of_mem hx))).trans (HR4.out x hx j u hu), q3⟩, ?_, ?_⟩
  · have e1 : (xs ++ (b, k, v) :: ys).length - 1 = (xs ++ ys).length := by simp
    rw [e1] at hm2
    exact hm2
  · refine (Turn.map (HT.out.turn.drew.mono fun i hi => .inl ?_) htu (.inl (.inr (.inl rfl))))
    rcases List.mem_cons.1 hi with h1 | h1
    · exact .inr (.inr (by rw [h1]; simp))
    · refine .inr (.inr (List.mem_cons_of_mem _ ?_))
      rw [List.map_append, List.map_cons]
      rcases List.mem_append.1 h1 with h2 | h2
      · exact List.mem_append_left _ h2
      · exact List.mem_append_right _ (List.mem_cons_of_mem _ h2)
  · rw [mapTurned_size htu]; exact HT.out.size
end Go.Proofs.Ytfkdmbiejledoaa
