/-
  Keys.
-/
import Derived.Test.YtfkdmbiejledoaaC3
import Derived.Deep.Cut
import Derived.Deep.DeepCutAuto
import Derived.Deep.DeepMust
set_option linter.unusedVariables false
set_option linter.unusedSimpArgs false
namespace Go.Proofs.Ytfkdmbiejledoaa
open Go.RowKit


theorem infoES : ∃ j, Try.prog.info? 65 = some j ∧ j.size ≠ 0 := by
  have h : (Try.prog.info? 65).map (·.size) = some 4 := by kernel_rfl
  cases hj : Try.prog.info? 65 with
  | none => rw [hj] at h; cases h
  | some j => rw [hj] at h; exact ⟨j, rfl, by injection h with h; have h : j.size = 4 := h; rw [h]; decide⟩
theorem infoKS : (Try.prog.info? 9).map (fun i => (i.zero, i.size, i.bytes)) = some (some (.string ⟨#[]⟩), 1, 16) := by kernel_rfl
set_option maxHeartbeats 1000000 in
set_option maxRecDepth 100000 in
theorem keysS_calls (c m h : Nat) (most hits misses gone : Int) (L : List (Nat × ByteArray × ByteArray)) (w : World) (H : CRep IS w c m h most L hits misses gone) (hle : L.length ≤ 1000000) :
    Calls Try.prog 21 #[ptr c] w fun r w' => ∃ v, r = .returned v ∧ w'.ownsRow w.heap.size 9 1 v L.length (L.map fun x => Value.string x.2.1) ∧ Below w.heap.size w w' := by
  obtain ⟨i0, hi, hz0, hz1, hz2⟩ := info_parts infoKS
  have HH := Lib.hid H
  have HLE := Lib.hid hle
  obtain ⟨bs, hbs⟩ : ∃ bs, bs = L.map (fun x => x.1) := ⟨_, rfl⟩
  have hlen : bs.length = L.length := by rw [hbs, List.length_map]
  have HLN := Lib.hid hlen
  have hr := H.ring
  rw [← hbs] at hr
  have HR := Lib.hid hr
  have HK := Lib.hid (show ∀ i (hi : i < bs.length) (hi2 : i < L.length), w.cell? ⟨bs[i], 0, none⟩ = some (Value.string L[i].2.1) from by
    intro i hi hi2
    have := H.key L[i] (List.getElem_mem hi2)
    rw [show L[i].1 = bs[i] by simp [hbs]] at this
    exact this)
  have hcB : c < w.heap.size := block_lt H.blk
  have c2 : w.cell? ⟨c, 2, none⟩ = some (.pointer (some ⟨h, 0, none⟩)) := cell_of_block H.blk (by show 2 < 6; decide)
  have h3 : w.cell? ⟨h, 3, none⟩ = some (.pointer (some ⟨firstOf (bs.drop 0) h, 0, none⟩)) := hr.chain.first.1
  have C2 := Lib.hid c2
  have hb63 : bs.length ≤ 1000000 := by omega
  clear H hle hr hbs hlen
  go_enter Try.func21, Try.ntmps21
  go_wp2
  go_loopg [3, 4] bs.length (fun g ov ev wr => ∃ i : Nat, i ≤ bs.length ∧ g = bs.length - i ∧ ev = .pointer (some ⟨firstOf (bs.drop i) h, 0, none⟩) ∧ Hid (wr.ownsRow w.heap.size 9 1 ov i ((L.take i).map fun x => Value.string x.2.1)) ∧ Hid (Below w.heap.size w wr))
  case atStart => exact ⟨0, Nat.zero_le _, by omega, rfl, Lib.hid (World.ownsRow_nil _ _ _ _), Lib.hid (Below.refl _ _)⟩
  case round =>
    obtain ⟨i, hi', rfl, rfl, HO, HB⟩ := hrel
    have c2 : wr.cell? ⟨c, 2, none⟩ = some (.pointer (some ⟨h, 0, none⟩)) := by rw [HB.out.cell hcB]; exact C2.out
    by_cases hlt : i < bs.length
    · have hi2 : i < L.length := by have := HLN.out; omega
      have e1 : firstOf (bs.drop i) h = bs[i] := firstOf_drop hlt
      have hmem : bs[i] ∈ h :: bs := List.mem_cons_of_mem _ (List.getElem_mem hlt)
      have hnb := HR.out.node _ hmem
      have hbB : bs[i] < w.heap.size := hnb.lt
      have k0 : wr.cell? ⟨bs[i], 0, none⟩ = some (Value.string L[i].2.1) := by rw [HB.out.cell hbB]; exact HK.out i hlt hi2
      have n3 : w.cell? ⟨bs[i], 3, none⟩ = some (.pointer (some ⟨firstOf (bs.drop (i + 1)) h, 0, none⟩)) := HR.out.chain.at i hlt
      have N3 := Lib.hid n3
      have hne : bs[i] ≠ h := fun e => (List.nodup_cons.1 HR.out.nodup).1 (by rw [← e]; exact List.getElem_mem hlt)
      have HT := Lib.hid (show (L.take (i + 1)).map (fun x => Value.string x.2.1) = (L.take i).map (fun x => Value.string x.2.1) ++ [Value.string L[i].2.1] by rw [List.take_succ_eq_append_getElem hi2, List.map_append]; rfl)
      rw [e1]
      obtain ⟨b, hb⟩ : ∃ b, b = bs[i] := ⟨_, rfl⟩
      obtain ⟨x, hx⟩ : ∃ x, x = L[i].2.1 := ⟨_, rfl⟩
      rw [← hb] at k0 N3 hne hbB hnb ⊢
      rw [← hx] at k0 HT
      clear e1 hmem hb hx n3
      obtain ⟨f, hf⟩ : ∃ f, f = firstOf (bs.drop (i + 1)) h := ⟨_, rfl⟩
      rw [← hf] at N3
      have HFF := Lib.hid hf
      clear hf
      have tne : (binOp .neq 63 (.pointer (some ⟨b, 0, none⟩)) (.pointer (some ⟨h, 0, none⟩))).run Try.prog wr = .ok (.bool true) wr := by
        obtain ⟨j, hj, hj2⟩ := infoES
        obtain ⟨cb, hcb, _⟩ := hnb
        obtain ⟨ch, hch, _⟩ := HR.out.node h (by simp)
        exact run_neq_ptr_other wr Try.underlying63 hj hj2 (fun e => hne (by injection e)) ((HB.out.block b hbB).trans hcb) ((HB.out.block h (block_lt hch)).trans hch)
      clear hnb
      go_wp2_with (at_builtin; go_must (refine wpList_append_lies _ rfl (.tmp 22) (.tmp 27) 30 rfl w.heap.size 9 i0 (.string ⟨#[]⟩) 1 16 Try.underlying30 hi hz0 hz1 hz2 rfl (by decide) _ _ _ rfl (HO.out.alloc _) ⟨wr.heap.size, 0, none⟩ 1 1 [Value.string x] rfl rfl (World.news_of_block (MapKept.heap_alloc _ _).1) (by intro u hu; simp at hu; subst hu; rfl) (by decide) (by unfold maxLen; omega) (by omega) (by have := HB.out.size; simp; omega) _ rfl ?_))
      intro g cap w2 hown2 hgrow hat hltg
      have HB2 := Lib.hid ((HB.out.alloc HB.out.size _).grown hgrow (by have := HB.out.size; simp; omega) (fun k hk => (HO.out.lt k hk).1))
      have HO2 : Hid (w2.ownsRow w.heap.size 9 1 (.slice (some ⟨g, 0, none⟩) (i + 1) cap) (i + 1) ((L.take (i + 1)).map fun x => Value.string x.2.1)) := Lib.hid (by rw [HT.out, List.map_take]; exact hown2)
      have n3' : w2.cell? ⟨b, 3, none⟩ = some (.pointer (some ⟨f, 0, none⟩)) := by rw [HB2.out.cell hbB]; exact N3.out
      clear hown2 hgrow hat hltg k0
      go_wp2
      go_roundg (bs.length - (i + 1))
      case measure => omega
      case rel => exact ⟨i + 1, by omega, rfl, by rw [HFF.out], HO2, HB2⟩
    · obtain rfl : i = bs.length := by omega
      have e1 : firstOf (bs.drop bs.length) h = h := firstOf_end (Nat.le_refl _)
      rw [e1]
      have hLL : (L.take bs.length) = L := by rw [HLN.out]; exact List.take_length
      rw [hLL, HLN.out] at HO
      clear e1 hLL
      have teq : (binOp .neq 63 (.pointer (some ⟨h, 0, none⟩)) (.pointer (some ⟨h, 0, none⟩))).run Try.prog wr = .ok (.bool false) wr := by
        obtain ⟨j, hj, hj2⟩ := infoES
        exact run_neq_ptr_same wr _ Try.underlying63 hj
      go_wp2
      go_ret
      exact ⟨_, rfl, HO.out, HB.out⟩

theorem infoEP : ∃ j, Try.prog.info? 95 = some j ∧ j.size ≠ 0 := by
  have h : (Try.prog.info? 95).map (·.size) = some 5 := by kernel_rfl
  cases hj : Try.prog.info? 95 with
  | none => rw [hj] at h; cases h
  | some j => rw [hj] at h; exact ⟨j, rfl, by injection h with h; have h : j.size = 5 := h; rw [h]; decide⟩
theorem infoKP : (Try.prog.info? 3).map (fun i => (i.zero, i.size, i.bytes)) = some (some (.int .i64 0), 1, 8) := by kernel_rfl
set_option maxHeartbeats 1000000 in
set_option maxRecDepth 100000 in
theorem keysP_calls (c m h : Nat) (most hits misses gone : Int) (L : List (Nat × Int × (ByteArray × Int))) (w : World) (H : CRep IP w c m h most L hits misses gone) (hle : L.length ≤ 1000000) :
    Calls Try.prog 50 #[ptr c] w fun r w' => ∃ v, r = .returned v ∧ w'.ownsRow w.heap.size 3 1 v L.length (L.map fun x => Value.int .i64 x.2.1) ∧ Below w.heap.size w w' := by
  obtain ⟨i0, hi, hz0, hz1, hz2⟩ := info_parts infoKP
  have HH := Lib.hid H
  have HLE := Lib.hid hle
  obtain ⟨bs, hbs⟩ : ∃ bs, bs = L.map (fun x => x.1) := ⟨_, rfl⟩
  have hlen : bs.length = L.length := by rw [hbs, List.length_map]
  have HLN := Lib.hid hlen
  have hr := H.ring
  rw [← hbs] at hr
  have HR := Lib.hid hr
  have HK := Lib.hid (show ∀ i (hi : i < bs.length) (hi2 : i < L.length), w.cell? ⟨bs[i], 0, none⟩ = some (Value.int .i64 L[i].2.1) from by
    intro i hi hi2
    have := H.key L[i] (List.getElem_mem hi2)
    rw [show L[i].1 = bs[i] by simp [hbs]] at this
    exact this)
  have hcB : c < w.heap.size := block_lt H.blk
  have c2 : w.cell? ⟨c, 2, none⟩ = some (.pointer (some ⟨h, 0, none⟩)) := cell_of_block H.blk (by show 2 < 6; decide)
  have h3 : w.cell? ⟨h, 4, none⟩ = some (.pointer (some ⟨firstOf (bs.drop 0) h, 0, none⟩)) := hr.chain.first.1
  have C2 := Lib.hid c2
  have hb63 : bs.length ≤ 1000000 := by omega
  clear H hle hr hbs hlen
  go_enter Try.func50, Try.ntmps50
  go_wp2
  go_loopg [3, 4] bs.length (fun g ov ev wr => ∃ i : Nat, i ≤ bs.length ∧ g = bs.length - i ∧ ev = .pointer (some ⟨firstOf (bs.drop i) h, 0, none⟩) ∧ Hid (wr.ownsRow w.heap.size 3 1 ov i ((L.take i).map fun x => Value.int .i64 x.2.1)) ∧ Hid (Below w.heap.size w wr))
  case atStart => exact ⟨0, Nat.zero_le _, by omega, rfl, Lib.hid (World.ownsRow_nil _ _ _ _), Lib.hid (Below.refl _ _)⟩
  case round =>
    obtain ⟨i, hi', rfl, rfl, HO, HB⟩ := hrel
    have c2 : wr.cell? ⟨c, 2, none⟩ = some (.pointer (some ⟨h, 0, none⟩)) := by rw [HB.out.cell hcB]; exact C2.out
    by_cases hlt : i < bs.length
    · have hi2 : i < L.length := by have := HLN.out; omega
      have e1 : firstOf (bs.drop i) h = bs[i] := firstOf_drop hlt
      have hmem : bs[i] ∈ h :: bs := List.mem_cons_of_mem _ (List.getElem_mem hlt)
      have hnb := HR.out.node _ hmem
      have hbB : bs[i] < w.heap.size := hnb.lt
      have k0 : wr.cell? ⟨bs[i], 0, none⟩ = some (Value.int .i64 L[i].2.1) := by rw [HB.out.cell hbB]; exact HK.out i hlt hi2
      have n3 : w.cell? ⟨bs[i], 4, none⟩ = some (.pointer (some ⟨firstOf (bs.drop (i + 1)) h, 0, none⟩)) := HR.out.chain.at i hlt
      have N3 := Lib.hid n3
      have hne : bs[i] ≠ h := fun e => (List.nodup_cons.1 HR.out.nodup).1 (by rw [← e]; exact List.getElem_mem hlt)
      have HT := Lib.hid (show (L.take (i + 1)).map (fun x => Value.int .i64 x.2.1) = (L.take i).map (fun x => Value.int .i64 x.2.1) ++ [Value.int .i64 L[i].2.1] by rw [List.take_succ_eq_append_getElem hi2, List.map_append]; rfl)
      rw [e1]
      obtain ⟨b, hb⟩ : ∃ b, b = bs[i] := ⟨_, rfl⟩
      obtain ⟨x, hx⟩ : ∃ x, x = L[i].2.1 := ⟨_, rfl⟩
      rw [← hb] at k0 N3 hne hbB hnb ⊢
      rw [← hx] at k0 HT
      clear e1 hmem hb hx n3
      obtain ⟨f, hf⟩ : ∃ f, f = firstOf (bs.drop (i + 1)) h := ⟨_, rfl⟩
      rw [← hf] at N3
      have HFF := Lib.hid hf
      clear hf
      have tne : (binOp .neq 93 (.pointer (some ⟨b, 0, none⟩)) (.pointer (some ⟨h, 0, none⟩))).run Try.prog wr = .ok (.bool true) wr := by
        obtain ⟨j, hj, hj2⟩ := infoEP
        obtain ⟨cb, hcb, _⟩ := hnb
        obtain ⟨ch, hch, _⟩ := HR.out.node h (by simp)
        exact run_neq_ptr_other wr Try.underlying93 hj hj2 (fun e => hne (by injection e)) ((HB.out.block b hbB).trans hcb) ((HB.out.block h (block_lt hch)).trans hch)
      clear hnb
      go_wp2_with (at_builtin; go_must (refine wpList_append_lies _ rfl (.tmp 22) (.tmp 27) 46 rfl w.heap.size 3 i0 (.int .i64 0) 1 8 Try.underlying46 hi hz0 hz1 hz2 rfl (by decide) _ _ _ rfl (HO.out.alloc _) ⟨wr.heap.size, 0, none⟩ 1 1 [Value.int .i64 x] rfl rfl (World.news_of_block (MapKept.heap_alloc _ _).1) (by intro u hu; simp at hu; subst hu; rfl) (by decide) (by unfold maxLen; omega) (by omega) (by have := HB.out.size; simp; omega) _ rfl ?_))
      intro g cap w2 hown2 hgrow hat hltg
      have HB2 := Lib.hid ((HB.out.alloc HB.out.size _).grown hgrow (by have := HB.out.size; simp; omega) (fun k hk => (HO.out.lt k hk).1))
      have HO2 : Hid (w2.ownsRow w.heap.size 3 1 (.slice (some ⟨g, 0, none⟩) (i + 1) cap) (i + 1) ((L.take (i + 1)).map fun x => Value.int .i64 x.2.1)) := Lib.hid (by rw [HT.out, List.map_take]; exact hown2)
      have n3' : w2.cell? ⟨b, 4, none⟩ = some (.pointer (some ⟨f, 0, none⟩)) := by rw [HB2.out.cell hbB]; exact N3.out
      clear hown2 hgrow hat hltg k0
      go_wp2
      go_roundg (bs.length - (i + 1))
      case measure => omega
      case rel => exact ⟨i + 1, by omega, rfl, by rw [HFF.out], HO2, HB2⟩
    · obtain rfl : i = bs.length := by omega
      have e1 : firstOf (bs.drop bs.length) h = h := firstOf_end (Nat.le_refl _)
      rw [e1]
      have hLL : (L.take bs.length) = L := by rw [HLN.out]; exact List.take_length
      rw [hLL, HLN.out] at HO
      clear e1 hLL
      have teq : (binOp .neq 93 (.pointer (some ⟨h, 0, none⟩)) (.pointer (some ⟨h, 0, none⟩))).run Try.prog wr = .ok (.bool false) wr := by
        obtain ⟨j, hj, hj2⟩ := infoEP
        exact run_neq_ptr_same wr _ Try.underlying93 hj
      go_wp2
      go_ret
      exact ⟨_, rfl, HO.out, HB.out⟩
end Go.Proofs.Ytfkdmbiejledoaa
