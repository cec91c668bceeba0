import Derived.Test.YtblkehdpenfhjaaGreatDoorR10
set_option linter.unnecessarySimpa false
set_option linter.unusedVariables false
set_option linter.unusedSimpArgs false
/-
  Package shard: peaks, root, record.
-/
set_option linter.unusedVariables false
set_option linter.unusedSimpArgs false
namespace Go.Proofs.YtblkehdpenfhjaaGreatDoor
open Go.RowKit Go.Maps Go.ChangeMaps Go.MapKept

section
variable {w w' : World} {a : EA} {D : ED} {X Y : Nat → Prop}
theorem cell_ltB {w : World} {b k : Nat} {v : Value} (h : w.cell? ⟨b, k, none⟩ = some v) : b < w.heap.size := by
  rcases Nat.lt_or_ge b w.heap.size with h' | h'
  · exact h'
  · simp [World.cell?, Array.getElem?_eq_none h'] at h
/-- the leaves of a shard: how many -/
theorem shardLen_calls (h : EngAt w a D X) (j : Nat) (hj : j ≤ 68719476736) :
    Calls Tryz.prog 153 #[.pointer (some ⟨a.eb, 0, none⟩), .int .i64 j] w fun r w' => ∃ A c, r = .returned (.slice A (D.shard j).length c) ∧ ∃ n, w' = w.drewN n := by
  obtain ⟨lv, rv, sf, ns, hE⟩ := h
  have hs := slin_cutV D.L hE.list (j * D.size) D.size
  refine (leaves_calls hE j hj).mono fun r w' ⟨h1, h2⟩ => ?_
  obtain ⟨A, c, e, _⟩ := hs
  rw [List.length_map] at e
  exact ⟨A, c, by rw [h1, e]; rfl, h2⟩
set_option maxHeartbeats 8000000 in
set_option maxRecDepth 100000 in
theorem peaks_calls (h : EngAt w a D X) (hg : Good D) (j : Nat) (hj : j ≤ 68719476736) (hin : j * D.size < D.L.length) (hd : D.dirty j = false) :
    Calls Tryz.prog 88 #[.pointer (some ⟨a.eb, 0, none⟩), .int .i64 j] w fun r w' => ∃ (u : Value) (ps : List ByteArray), r = .returned u ∧ (∀ x ∈ ps, x.size ≤ 32) ∧ ps.length ≤ 63 ∧ w'.ownsRow w.heap.size 9 1 u ps.length (ps.map Value.string) ∧ Below w.heap.size w w' := by
  obtain ⟨i0, hi, hz0, hz1, hz2⟩ := info_parts infoS
  have HL := Lib.hid (shardLen_calls h j hj)
  have hlen := h.ok.len
  obtain ⟨m, hm⟩ : ∃ m, m = (D.shard j).length := ⟨_, rfl⟩
  have hmb : m ≤ D.size ∧ j * D.size + m ≤ D.L.length := by
    rw [hm]; unfold ED.shard; rw [seg_len]; omega
  have hml : m ≤ 4611686018427387904 := by omega
  obtain ⟨lv, rv, sf, ns, hE⟩ := h
  obtain ⟨cv, hcv⟩ : ∃ cv, cv = cover m := ⟨_, rfl⟩
  have HCL := Lib.hid (show cv.length ≤ 63 from by rw [hcv]; exact cover_len m)
  -- the cell of each node of the cover, and its rows
  have HNC := Lib.hid (show ∀ i (h : i < cv.length), ∃ A k c, rv j = some (.slice A k c) ∧ cv[i].1 < k ∧ k ≤ 1099511627776 ∧ ∃ b o, A = some ⟨b, o, none⟩ ∧ b < w.heap.size ∧ ∃ (b2 o2 n2 c2 : Nat) (x : ByteArray), b2 < w.heap.size ∧ w.cell? ⟨b, o + cv[i].1, none⟩ = some (.slice (some ⟨b2, o2, none⟩) n2 c2) ∧ n2 ≤ 1099511627776 ∧
      cv[i].2 < n2 ∧ w.cell? ⟨b2, o2 + cv[i].2, none⟩ = some (.string x) ∧ x.size ≤ 32 from fun i hi => by
    have hok := cover_ok m (by omega) cv[i] (by rw [← hcv]; exact List.getElem_mem hi)
    obtain ⟨l, hl⟩ : ∃ l, l = cv[i].1 := ⟨_, rfl⟩
    obtain ⟨q, hq⟩ : ∃ q, q = cv[i].2 := ⟨_, rfl⟩
    rw [← hl, ← hq] at hok ⊢
    have hsz : D.size = 2 ^ D.B := rfl
    have hpl : 2 ^ l ≤ 2 ^ D.B := by
      have h1 : 1 * 2 ^ l ≤ (q + 1) * 2 ^ l := Nat.mul_le_mul_right _ (by omega)
      omega
    have hlB : l ≤ D.B := (Nat.pow_le_pow_iff_right (by omega : 1 < 2)).1 hpl
    obtain ⟨p, hp⟩ : ∃ p, p = 2 ^ (D.B - l) := ⟨_, rfl⟩
    have hpp : 0 < p := by rw [hp]; exact Nat.two_pow_pos _
    have hpw : D.size = p * 2 ^ l := by rw [hsz, hp, ← Nat.pow_add]; congr 1; omega
    have hqp : q < p := by
      have h1 : (q + 1) * 2 ^ l ≤ p * 2 ^ l := by omega
      have := Nat.le_of_mul_le_mul_right h1 (Nat.two_pow_pos l)
      omega
    have e1 : (j * p + q) / p = j := by
      rw [Nat.mul_comm, Nat.mul_add_div hpp, Nat.div_eq_of_lt hqp]; omega
    have e2 : (j * p + q + 1) * 2 ^ l ≤ D.L.length := by
      have h1 : (j * p + q + 1) * 2 ^ l = j * (p * 2 ^ l) + (q + 1) * 2 ^ l := by rw [show j * p + q + 1 = j * p + (q + 1) by omega, Nat.add_mul, Nat.mul_assoc]
      rw [h1, ← hpw]
      omega
    have hrc := hE.rowCell hg (l := l) (i := j * p + q) hlB e2 (by rw [← hp, e1]; exact hd)
    rw [← hp, e1, show j * p + q - j * p = q by omega] at hrc
    obtain ⟨A, k, c, g1, g2, g3, b, o, g4, b2, o2, n2, c2, g5, g6, g7, g8⟩ := hrc
    exact ⟨A, k, c, g1, g2, g3, b, o, g4, cell_ltB g5, b2, o2, n2, c2, _, cell_ltB g8, g5, g6, g7, g8, nodeF_size _ _ _ _⟩)
  have HRL := Lib.hid (fun w' (hb : Below w.heap.size w w') => (hE.rowsM.keep (hb.block _ hE.rowsM.lt)).look Tryz.underlying3 Tryz.underlying84 (Tryz.zeroValue22 w') (j := j) (by unfold big; omega))
  have hebl := hE.low (b := a.eb) (.inl rfl)
  have HC11 := Lib.hid (fun w' (hb : Below w.heap.size w w') => (hb.cell (p := ⟨a.eb, 11, none⟩) hebl).trans hE.c11)
  have HCO := Lib.hid (fun w' => cover_calls m hml w')
  rw [← hcv] at HCO
  rw [← hm] at HL
  obtain ⟨eb, heb⟩ : ∃ x, x = a.eb := ⟨_, rfl⟩
  obtain ⟨rb, hrb⟩ : ∃ x, x = a.rb := ⟨_, rfl⟩
  rw [← heb] at HL HC11 ⊢
  rw [← hrb] at HC11 HRL
  clear hE hg hin hd hm hmb hcv heb hrb hebl hlen
  go_enter Tryz.func88, Tryz.ntmps88
  go_wp2_with fail
  refine (HL.out).mono ?_
  rintro r w1 ⟨A0, c0, rfl, n0, rfl⟩
  have HB1 := Lib.hid (below_drewN (Below.refl w.heap.size w) n0)
  go_wp2_with fail
  refine (HCO.out _).mono ?_
  rintro r w2 ⟨v, rfl, hrow, hb2⟩
  obtain ⟨Ac, cc, hvs⟩ : ∃ A c, v = .slice A cv.length c := by
    rcases hrow.2 with ⟨h, hn⟩ | ⟨g, cap, cur, h, _⟩
    · exact ⟨none, 0, by rw [h, hn]⟩
    · exact ⟨_, _, h⟩
  have HROW := Lib.hid hrow
  have HB2 := Lib.hid (HB1.out.trans (hb2.mono HB1.out.size))
  have HAC := Lib.hid (show ∀ i (h : i < cv.length), ∃ b c, v = .slice (some ⟨b, 0, none⟩) cv.length c ∧ b < w2.heap.size ∧ w2.cell? ⟨b, i * 2, none⟩ = some (.int .i64 (cv[i].1 : Int)) ∧ w2.cell? ⟨b, i * 2 + 1, none⟩ = some (.int .i64 (cv[i].2 : Int)) from fun i h => by
    obtain ⟨b, c, g1, _, g2, g3, g4⟩ := plC_cells hrow rfl i h
    exact ⟨b, c, g1, g2, g3, g4⟩)
  obtain ⟨n, hn⟩ : ∃ n, n = cv.length := ⟨_, rfl⟩
  have HN := Lib.hid hn
  rw [← hn] at hvs
  have hnb : n ≤ 63 := by rw [hn]; exact HCL.out
  subst hvs
  clear hrow hb2 hn HL HCO
  go_wp2_with fail
  go_loopw [7, 20] (fun tv iv wr => ∃ (i : Nat) (ps : List ByteArray) (At : Option Addr) (ct : Nat), tv = .slice At i ct ∧ iv = .int .i64 (i : Int) ∧ i ≤ n ∧ Hid (ps.length = i ∧ ∀ x ∈ ps, x.size ≤ 32) ∧ Hid (wr.ownsRow w2.heap.size 9 1 (.slice At i ct) i (ps.map Value.string)) ∧ Hid (Below w2.heap.size w2 wr)) (fun _ iv _ => n + 1 - (intOf iv).toNat)
  case atStart => exact ⟨0, [], none, 0, rfl, rfl, by omega, Lib.hid ⟨rfl, fun x hx => by cases hx⟩, Lib.hid (World.ownsRow_nil _ _ _ _), Lib.hid (Below.refl _ _)⟩
  case round =>
    obtain ⟨i, ps, At, ct, rfl, rfl, hin, HPS, HO, HBK⟩ := hrel
    by_cases hi2 : i < n
    · have hic : i < cv.length := by rw [← HN.out]; exact hi2
      obtain ⟨cb, cc2, hvs, hcb, hc0, hc1⟩ := HAC.out i hic
      injection hvs with hA1 hA2 hA3
      subst hA1
      obtain ⟨A, k, c, g1, g2, g3, b, o, rfl, gb, b2, o2, n2, c2, x, gb2, g5, g6, g7, g8, g9⟩ := HNC.out i hic
      obtain ⟨l, hl⟩ : ∃ l, l = cv[i].1 := ⟨_, rfl⟩
      obtain ⟨q, hq⟩ : ∃ q, q = cv[i].2 := ⟨_, rfl⟩
      rw [← hl] at hc0 g2 g5
      rw [← hq] at hc1 g7 g8
      have d0 := (HBK.out.cell (p := ⟨cb, i * 2, none⟩) hcb).trans hc0
      have d1 := (HBK.out.cell (p := ⟨cb, i * 2 + 1, none⟩) hcb).trans hc1
      obtain ⟨w3, hw3⟩ : ∃ w3, w3 = wr.alloc (.cells #[.int .i64 (l : Int), .int .i64 (q : Int)] 42) := ⟨_, rfl⟩
      have hb3 : Below wr.heap.size wr w3 := by rw [hw3]; exact (Below.refl _ _).alloc (Nat.le_refl _) _
      have hbx : w3.heap[wr.heap.size]? = some (.cells #[.int .i64 (l : Int), .int .i64 (q : Int)] 42 (0, 0)) := by rw [hw3]; exact (MapKept.heap_alloc wr _).1
      have HB3 := Lib.hid (HBK.out.trans (hb3.mono HBK.out.size))
      have hlt3 : wr.heap.size < w3.heap.size := block_lt hbx
      have HFACT := Lib.hid (fun (w' : World) (s : Below w3.heap.size w3 w') =>
        have hbw : Below w.heap.size w w' := HB2.out.trans ((HB3.out.trans (s.mono HB3.out.size)).mono HB2.out.size)
        show w'.cell? ⟨eb, 11, none⟩ = some (.map (some rb)) ∧ (Instr.lookup 84 (.map (some rb)) (.int .i64 (j : Int)) false).run Tryz.prog w' = .ok (.slice (some ⟨b, o, none⟩) k c) w' ∧ w'.cell? ⟨wr.heap.size, 0, none⟩ = some (.int .i64 (l : Int)) ∧ w'.cell? ⟨wr.heap.size, 1, none⟩ = some (.int .i64 (q : Int)) ∧
          w'.cell? ⟨b, o + l, none⟩ = some (.slice (some ⟨b2, o2, none⟩) n2 c2) ∧ w'.cell? ⟨b2, o2 + q, none⟩ = some (.string x) from
        ⟨HC11.out w' hbw, by have := HRL.out w' hbw; rw [g1, Option.getD_some] at this; exact this, (s.cell (p := ⟨wr.heap.size, 0, none⟩) hlt3).trans (cell_of_block (off := 0) hbx (by show 0 < 2; decide)), (s.cell (p := ⟨wr.heap.size, 1, none⟩) hlt3).trans (cell_of_block (off := 1) hbx (by show 1 < 2; decide)),
          (hbw.cell (p := ⟨b, o + l, none⟩) gb).trans g5, (hbw.cell (p := ⟨b2, o2 + q, none⟩) gb2).trans g8⟩)
      have HO3 := Lib.hid (show w3.ownsRow w2.heap.size 9 1 (.slice At i ct) i (ps.map Value.string) from own_keep HO.out fun b cur hb => hb3.block b (block_lt hb))
      have k1 : (l : Int) < (k : Int) := by omega
      have k2 : (q : Int) < (n2 : Int) := by omega
      have HX := Lib.hid g9
      clear hcb hc0 hc1 hA2 hA3 g1 g3 gb gb2 g5 g6 g8 g9 hl hq hic hbx hb3 hlt3
      go_wp2_with fail
      rw [← hw3]
      clear hw3 d0 d1
      refine wp_region_tree (fun w' => Hid (Below w3.heap.size w3 w')) (.hd 0 (.hd 1 (.hd 2 (.hd 3 (.hd 4 (.hd 5 (.hd 6 (.hd 7 (.hd 8 (.hd 9 (.hd 10 (.hd 11 (.hd 12 (.hd 13 (.hd 14 (.fk 15 (.fk 16 (.fk 17 .nil .no) .no) .no)))))))))))))))) (by kernel_rfl) (by kernel_rfl) (fun _ _ d _ _ h => by cases d <;> exact h) (Lib.hid (Below.refl _ w3).drew) ?_
      iterate 15
        refine hdT ?_ ?_ (by rfl) (by rfl) (fun w' s1 => ?_) ?_ ?_
        rotate_left 2
        focus (obtain ⟨s2, s3, s4, s5, s6, s7⟩ := HFACT.out w' s1.out; go_simp; exact rfl)
        focus (go_simp; exact rfl)
      refine fkT (by rfl) (by rfl) (fun K hK => ?_) noT
      go_wp2_with fail
      refine hK _ _ (Lib.hid ((Below.refl _ w3).drew.alloc (Nat.le_refl _) _)) ?_
      clear hK
      refine fkTn (by kernel_rfl) (by rfl) (by rfl) (fun K hK => ?_) noT
      refine wp_append_lies _ (.tmp 24) (.tmp 39) 32 (by rfl) w2.heap.size 9 i0 (.string ⟨#[]⟩) 1 16 Tryz.underlying32 hi hz0 hz1 hz2 rfl (by decide) _ _ _ (by rfl) ((show w3.drew.ownsRow w2.heap.size 9 1 (.slice At i ct) i (ps.map Value.string) from HO3.out).alloc _) ⟨w3.drew.heap.size, 0, none⟩ 1 1 [Value.string x] (by rfl) (by rfl) (World.news_of_block (MapKept.heap_alloc _ _).1) (by intro u hu; simp at hu; subst hu; rfl) (by decide) (by unfold maxLen; omega) (by omega) (by have := HB3.out.size; simp; exact Nat.le_succ_of_le this) _ rfl ?_
      intro g cap3 w4 hown4 hgrow hat hltg
      have HO4 := Lib.hid (show w4.ownsRow w2.heap.size 9 1 (.slice (some ⟨g, 0, none⟩) (i + 1) cap3) (i + 1) ((ps ++ [x]).map Value.string) by rw [List.map_append]; exact hown4)
      have HB4 := Lib.hid ((HB3.out.drew.alloc HB3.out.size _).grown hgrow (by have := HB3.out.size; simp; exact Nat.le_succ_of_le this) (fun k hk => own_ge HO3.out hk))
      have HPS4 := Lib.hid (show (ps ++ [x]).length = i + 1 ∧ ∀ y ∈ ps ++ [x], y.size ≤ 32 from ⟨by rw [List.length_append, HPS.out.1]; rfl, fun y hy => by
        rcases List.mem_append.1 hy with hy | hy
        · exact HPS.out.2 y hy
        · rw [List.mem_singleton] at hy; subst hy; exact HX.out⟩)
      refine hK _ _ ?_
      clear hK hown4 hgrow hat hltg
      refine fkTn (by kernel_rfl) (by rfl) (by rfl) (fun K hK => ?_) noT
      go_wp2_with fail
      refine nilT ?_
      go_wp2
      exact ⟨⟨i + 1, _, _, _, rfl, by congr 1, by omega, HPS4, HO4, HB4⟩, by simp [intOf]; omega⟩
    · have HE := Lib.hid (show i = n from by omega)
      go_wp2
      go_ret
      exact ⟨_, ps, rfl, HPS.out.2, by rw [HPS.out.1]; omega, by rw [HPS.out.1]; exact own_mono HO.out HB2.out.size, HB2.out.trans (HBK.out.mono HB2.out.size)⟩
end
end Go.Proofs.YtblkehdpenfhjaaGreatDoor
/-
  Package shard: a shard's root and record; fits.
-/
set_option linter.unusedVariables false
set_option linter.unusedSimpArgs false
namespace Go.Proofs.YtblkehdpenfhjaaGreatDoor
open Go.RowKit Go.Maps Go.ChangeMaps Go.MapKept

section
variable {w w' : World} {a : EA} {D : ED} {X Y : Nat → Prop} {room : Nat} {now disk : Recs} {log : List Value} {F : Nat → Prop}
set_option maxHeartbeats 4000000 in
set_option maxRecDepth 100000 in
theorem shardRoot_calls (h : EngAt w a D X) (hG : Glob w) (hg : Good D) (j : Nat) (hj : j ≤ 68719476736) (hin : j * D.size < D.L.length) (hd : D.dirty j = false) :
    Calls Tryz.prog 154 #[.pointer (some ⟨a.eb, 0, none⟩), .int .i64 j] w fun r w' => ∃ s : ByteArray, r = .returned (.string s) ∧ s.size ≤ 32 ∧ Below w.heap.size w w' := by
  have HP := Lib.hid (fun w' (hb : Below w.heap.size w w') => peaks_calls (h.below hb) hg j hj hin hd)
  have HC4 := Lib.hid (show ∀ w', Below w.heap.size w w' → w'.cell? ⟨a.eb, 4, none⟩ = some (.int .i64 (D.W : Int)) from fun w' hb => by obtain ⟨lv, rv, sf, ns, hE⟩ := h; exact (hb.cell (p := ⟨a.eb, 4, none⟩) (hE.low (.inl rfl))).trans hE.c4)
  have HG := Lib.hid hG
  obtain ⟨W, hW⟩ : ∃ x, x = D.W := ⟨_, rfl⟩
  rw [← hW] at HC4
  obtain ⟨eb, heb⟩ : ∃ x, x = a.eb := ⟨_, rfl⟩
  rw [← heb] at HP HC4 ⊢
  clear h hG hg hin hd hW heb
  go_enter Tryz.func154, Tryz.ntmps154
  go_wp2_with fail
  refine wp_region_tree (fun w' => Hid (Below w.heap.size w w')) (.hd 0 (.hd 1 (.hd 2 (.hd 3 (.hd 4 (.hd 5 (.hd 6 (.fk 7 (.fk 8 (.fk 9 .nil .no) .no) .no)))))))) (by kernel_rfl) (by kernel_rfl) (fun _ _ d _ _ h => by cases d <;> exact h) (Lib.hid (Below.refl _ w).drew) ?_
  iterate 7
    refine hdT ?_ ?_ (by rfl) (by rfl) (fun w' s1 => ?_) ?_ ?_
    rotate_left 2
    focus (have d4 := HC4.out w' s1.out; go_simp; exact rfl)
    focus (go_simp; exact rfl)
  refine fkT (by rfl) (by rfl) (fun K hK => ?_) noT
  go_wp2_with fail
  refine (HP.out _ (Below.refl _ w).drew).mono ?_
  rintro r w1 ⟨u, ps, rfl, hp1, hp2, hrow, hb1⟩
  have HB1 := Lib.hid (show Below w.heap.size w w1 from (Below.refl _ w).drew.trans hb1)
  have HFO := Lib.hid (fold_calls W ps hp1 (by omega) (w := w1) (by have := SlIn.of_own hrow; simpa using this) (HG.out.keep HB1.out))
  have HFS := Lib.hid (foldF_size W ps hp1)
  refine hK _ _ (Lib.hid HB1.out) ?_
  clear hK hp1 hp2 hrow hb1
  refine fkTn (by kernel_rfl) (by rfl) (by rfl) (fun K hK => ?_) noT
  go_wp2_with fail
  refine (HFO.out).mono ?_
  rintro r w2 ⟨rfl, hb2⟩
  have HB2 := Lib.hid (HB1.out.trans (hb2.mono HB1.out.size))
  refine hK _ _ ?_
  clear hK hb2
  refine fkTn (by kernel_rfl) (by rfl) (by rfl) (fun K hK => ?_) noT
  go_wp2_with fail
  refine nilT ?_
  go_wp2
  go_ret
  exact ⟨_, rfl, HFS.out, HB2.out⟩
theorem record_fact (n : Nat) (h : n < 18446744073709551616) : IntKind.u64.wrap (n : Int) = (n : Int) := by simp [IntKind.wrap, IntKind.signed, IntKind.bits]; omega
theorem shard_len (D : ED) (j : Nat) : (D.shard j).length ≤ D.L.length := by unfold ED.shard; rw [seg_len]; omega
set_option maxHeartbeats 4000000 in
set_option maxRecDepth 100000 in
theorem record_calls (h : EngAt w a D X) (hG : Glob w) (hg : Good D) (j : Nat) (hj : j ≤ 68719476736) (hin : j * D.size < D.L.length) (hd : D.dirty j = false) :
    Calls Tryz.prog 89 #[.pointer (some ⟨a.eb, 0, none⟩), .int .i64 j] w fun r w' => ∃ s : ByteArray, r = .returned (.string s) ∧ s.size ≤ 42 ∧ Below w.heap.size w w' := by
  have HL := Lib.hid (shardLen_calls h j hj)
  have hlen := h.ok.len
  have hsl := shard_len D j
  obtain ⟨m, hm⟩ : ∃ m, m = (D.shard j).length := ⟨_, rfl⟩
  rw [← hm] at HL hsl
  have hw : IntKind.u64.wrap (m : Int) = (m : Int) := record_fact m (by omega)
  have HPV := Lib.hid (fun w' => putVar_calls m (by omega) w')
  have HR := Lib.hid (fun w' (hb : Below w.heap.size w w') => shardRoot_calls (h.below hb) (hG.keep hb) hg j hj hin hd)
  obtain ⟨eb, heb⟩ : ∃ x, x = a.eb := ⟨_, rfl⟩
  rw [← heb] at HL HR ⊢
  clear h hG hg hin hd hm heb hlen hsl
  go_enter Tryz.func89, Tryz.ntmps89
  go_wp2_with fail
  refine (HL.out).mono ?_
  rintro r w1 ⟨A0, c0, rfl, n0, rfl⟩
  have HB1 := Lib.hid (below_drewN (Below.refl w.heap.size w) n0)
  go_wp2_with fail
  refine (HPV.out _).mono ?_
  rintro r w2 ⟨rfl, hb2⟩
  have HB2 := Lib.hid (HB1.out.trans (hb2.mono HB1.out.size))
  obtain ⟨x, hx⟩ : ∃ x, x = mk (varL 10 m) := ⟨_, rfl⟩
  have hxs : x.size ≤ 10 := by rw [hx, mk_size]; exact varL_len _ _
  rw [← hx]
  clear hb2 hx
  go_wp2_with fail
  refine (HR.out w2 HB2.out).mono ?_
  rintro r w3 ⟨s, rfl, hs, hb3⟩
  have HB3 := Lib.hid (HB2.out.trans (hb3.mono HB2.out.size))
  have p4 : ∀ w, (Op.stringOp .add x s).run Tryz.prog w = .ok (.string (x ++ s)) w := fun w => run_string_add_sum w x s (by omega)
  have HSZ := Lib.hid (show (x ++ s).size ≤ 42 by rw [ByteArray.size_append]; omega)
  clear hb3 hs hxs
  go_wp2
  go_ret
  exact ⟨_, rfl, HSZ.out, HB3.out⟩
end
end Go.Proofs.YtblkehdpenfhjaaGreatDoor
/-
  Package shard: fits.
-/
set_option linter.unusedVariables false
set_option linter.unusedSimpArgs false
namespace Go.Proofs.YtblkehdpenfhjaaGreatDoor
open Go.RowKit Go.Maps Go.ChangeMaps Go.MapKept

section
variable {w w' : World} {a : EA} {D : ED} {X Y : Nat → Prop} {room : Nat} {now disk : Recs} {log : List Value} {F : Nat → Prop}
theorem wrap64 (x : Int) (h1 : -9223372036854775808 ≤ x) (h2 : x < 9223372036854775808) : IntKind.i64.wrap x = x := by simp [IntKind.wrap, IntKind.signed, IntKind.bits]; omega
theorem shardLen_fix (h : EngAt w a D X) (j : Nat) (hj : j ≤ 68719476736) : ∃ A c, ∀ w', Below w.heap.size w w' →
    Calls Tryz.prog 153 #[.pointer (some ⟨a.eb, 0, none⟩), .int .i64 j] w' fun r w'' => r = .returned (.slice A (D.shard j).length c) ∧ Hid (Below w.heap.size w w'') := by
  obtain ⟨lv, rv, sf, ns, hE⟩ := h
  obtain ⟨A, c, e, _⟩ := slin_cutV D.L hE.list (j * D.size) D.size
  rw [List.length_map] at e
  refine ⟨A, c, fun w' hb => (leaves_calls (hE.below hb) j hj).mono fun r w'' ⟨h1, n, h2⟩ => ⟨by rw [h1, e]; rfl, ?_⟩⟩
  rw [h2]
  exact Lib.hid (below_drewN hb n)
set_option maxHeartbeats 8000000 in
set_option maxRecDepth 100000 in
theorem fits_calls (h : Sys w a D room now disk log F) (hsp : D.space = 3) (js : List Nat) (hj : ∀ j ∈ js, j ≤ 68719476736) (hl : js.length ≤ 1000000) {A : Option Addr} {cap : Nat} {Z : Nat → Prop} (hv : SlIn w (.slice A js.length cap) (js.map fun (j : Nat) => Value.int .i64 (j : Int)) Z) :
    Calls Tryz.prog 86 #[.pointer (some ⟨a.eb, 0, none⟩), .slice A js.length cap] w fun r w' => ∃ b : Bool, r = .returned (.bool b) ∧ Below w.heap.size w w' := by
  obtain ⟨A', cap', hve, hcap, hcells⟩ := hv
  rw [List.length_map] at hve
  injection hve with e1 e2 e3
  subst e1
  subst e3
  obtain ⟨n, hn⟩ : ∃ n, n = js.length := ⟨_, rfl⟩
  rw [List.length_map, ← hn] at hcap
  have HCL := Lib.hid (show 0 < n → ∃ b o, A = some ⟨b, o, none⟩ ∧ b < w.heap.size ∧ ∀ i (h : i < js.length), w.cell? ⟨b, o + i, none⟩ = some (.int .i64 (js[i] : Int)) from fun h => by
    obtain ⟨b, o, g1, g2, g3, g4⟩ := hcells (by rw [List.length_map]; omega)
    exact ⟨b, o, g1, g2, fun i hi => by rw [g4 i (by rw [List.length_map]; exact hi), List.getElem_map]⟩)
  have HN := Lib.hid hn
  rw [← hn] at hl ⊢
  have HU := Lib.hid (show ∃ u : Nat, u ≤ 1073741824 ∧ Calls Tryz.prog 20 #[.pointer (some ⟨a.sb, 0, none⟩)] w fun r w' => r = .returned (.int .i64 (u : Int)) ∧ w = w' from ⟨usedR now, by have := h.sto.used; have := h.sto.room; omega, by obtain ⟨⟨mb, kb, lv, h1, _⟩, _⟩ := h.sto; exact used_calls h1⟩)
  have HRM := Lib.hid (show ∀ w', Below w.heap.size w w' → Calls Tryz.prog 69 #[.pointer (some ⟨a.sb, 0, none⟩)] w' fun r w'' => r = .returned (.int .i64 (room : Int)) ∧ w' = w'' from fun w' hb => by obtain ⟨⟨mb, kb, lv, h1, _⟩, _⟩ := h.sto.below hb; exact room_calls h1)
  have HGT := Lib.hid (show ∀ w', Below w.heap.size w w' → ∀ k : ByteArray, k.size = 18 → ∃ (o : ByteArray) (e : Int), o.size ≤ 1048576 ∧ Calls Tryz.prog 151 #[.pointer (some ⟨a.sb, 0, none⟩), .string k] w' fun r w'' => r = .returned (.tuple #[.string o, .int .i64 e]) ∧ w' = w'' from fun w' hb k hk => ⟨_, _, by
      cases hg : getR now k with
      | none => exact Nat.le_trans (Nat.le_of_eq (rfl : (ByteArray.mk #[]).size = 0)) (Nat.zero_le _)
      | some u => exact h.sto.small k u hg, get_calls (h.sto.below hb) k (by omega) (by omega)⟩)
  have HLV := Lib.hid (fun i (hi : i < js.length) => shardLen_fix h.eng js[i] (hj _ (List.getElem_mem hi)))
  have HJ := Lib.hid (fun i (hi : i < js.length) => hj js[i] (List.getElem_mem hi))
  have hrm := h.sto.room
  have hlen := h.eng.ok.len
  obtain ⟨lv, rv, sf, ns, hE⟩ := h.eng
  have hebl := hE.low (b := a.eb) (.inl rfl)
  have HC := Lib.hid (show ∀ w', Below w.heap.size w w' → w'.cell? ⟨a.eb, 0, none⟩ = some (.pointer (some ⟨a.sb, 0, none⟩)) ∧ w'.cell? ⟨a.eb, 4, none⟩ = some (.int .i64 (D.W : Int)) ∧ w'.cell? ⟨a.eb, 9, none⟩ = some (.int .i64 3) from fun w' hb =>
    ⟨(hb.cell (p := ⟨a.eb, 0, none⟩) hebl).trans hE.c0, (hb.cell (p := ⟨a.eb, 4, none⟩) hebl).trans hE.c4, (hb.cell (p := ⟨a.eb, 9, none⟩) hebl).trans (by rw [hE.c9, hsp]; rfl)⟩)
  have hW := hE.ok.W2
  obtain ⟨W, hWW⟩ : ∃ x, x = D.W := ⟨_, rfl⟩
  rw [← hWW] at HC hW
  obtain ⟨eb, heb⟩ : ∃ x, x = a.eb := ⟨_, rfl⟩
  obtain ⟨sb, hsb⟩ : ∃ x, x = a.sb := ⟨_, rfl⟩
  rw [← heb] at HC HLV ⊢
  rw [← hsb] at HU HRM HGT HC
  have HLL := Lib.hid (show ∀ j, (D.shard j).length ≤ 68719476736 from fun j => by have := shard_len D j; omega)
  clear h hj hE hcells hn hsp hWW heb hsb hebl hlen
  obtain ⟨u, hu, hUC⟩ := HU.out
  have HUC := Lib.hid hUC
  obtain ⟨d0, d4, d9⟩ := HC.out w (Below.refl _ _)
  clear hUC HU
  go_enter Tryz.func86, Tryz.ntmps86
  go_wp2_with fail
  refine (HUC.out).mono ?_
  rintro r w1 ⟨rfl, rfl⟩
  go_wp2_with fail
  clear d0 d4 d9
  go_loopw [5, 19] (fun zv iv wr => ∃ (i : Nat) (z : Int), zv = .int .i64 z ∧ iv = .int .i64 (i : Int) ∧ i ≤ n ∧ -(2097152 * (i : Int)) ≤ z ∧ z ≤ 1073741824 + 2097152 * (i : Int) ∧ Hid (Below w.heap.size w wr)) (fun _ iv _ => n + 1 - (intOf iv).toNat)
  case atStart => exact ⟨0, u, rfl, rfl, by omega, by omega, by omega, Lib.hid (Below.refl _ _)⟩
  case round =>
    obtain ⟨i, z, rfl, rfl, hin, hz1, hz2, HB⟩ := hrel
    by_cases hi : i < n
    · obtain ⟨b, o, rfl, hb, hcl⟩ := HCL.out (by omega)
      have hij : i < js.length := by rw [← HN.out]; exact hi
      have dj := (HB.out.cell (p := ⟨b, o + i, none⟩) hb).trans (hcl i hij)
      obtain ⟨Al, cl, hlv⟩ := HLV.out i hij
      have hjb := HJ.out i hij
      have hll := HLL.out js[i]
      obtain ⟨j, hjj⟩ : ∃ j, j = js[i] := ⟨_, rfl⟩
      rw [← hjj] at dj hlv hjb hll
      obtain ⟨m, hm⟩ : ∃ m, m = (D.shard j).length := ⟨_, rfl⟩
      rw [← hm] at hlv hll
      have HLF := Lib.hid hlv
      have HKY := Lib.hid (fun w' => key_calls 3 5 j (by decide) (by decide) (by decide) (by omega) w')
      obtain ⟨k, hk⟩ : ∃ k, k = keyB 3 5 j := ⟨_, rfl⟩
      have hks : k.size = 18 := by rw [hk, keyB_size]
      rw [← hk] at HKY
      have HKS := Lib.hid hks
      obtain ⟨d0, d4, d9⟩ := HC.out wr HB.out
      have hw : IntKind.u64.wrap (m : Int) = (m : Int) := record_fact m (by omega)
      have HPV := Lib.hid (fun w' (hb' : Below w.heap.size w w') => (putVar_calls m (by omega) w').mono fun r w'' ⟨h1, h2⟩ => (⟨h1, Lib.hid (hb'.trans (h2.mono hb'.size))⟩ : _ ∧ Hid (Below w.heap.size w w'')))
      obtain ⟨pv, hpv⟩ : ∃ x, x = mk (varL 10 m) := ⟨_, rfl⟩
      have hpvs : pv.size ≤ 10 := by rw [hpv, mk_size]; exact varL_len _ _
      rw [← hpv] at HPV
      clear hjj hm hlv hk hks hpv hcl hb hij
      go_wp2_with fail
      refine (HKY.out wr).mono ?_
      rintro r w2 ⟨rfl, hb2⟩
      have HB2 := Lib.hid (HB.out.trans (hb2.mono HB.out.size))
      clear d0 d4 d9 dj hb2
      obtain ⟨d0, d4, d9⟩ := HC.out w2 HB2.out
      obtain ⟨og, eg, hog, hGC⟩ := HGT.out w2 HB2.out k HKS.out
      have HGC := Lib.hid hGC
      clear hGC
      go_wp2_with fail
      refine (HGC.out).mono ?_
      rintro r w3 ⟨rfl, rfl⟩
      have hks := HKS.out
      have q1 : IntKind.i64.wrap (52 + (pv.size : Int)) = 52 + (pv.size : Int) := wrap64 _ (by omega) (by omega)
      have q2 : IntKind.i64.wrap (52 + (pv.size : Int) + (W : Int)) = 52 + (pv.size : Int) + (W : Int) := wrap64 _ (by omega) (by omega)
      have q3 : IntKind.i64.wrap (z - (18 + (og.size : Int) + 16) + (52 + (pv.size : Int) + (W : Int))) = z - (18 + (og.size : Int) + 16) + (52 + (pv.size : Int) + (W : Int)) := wrap64 _ (by omega) (by omega)
      have q4 : IntKind.i64.wrap (z + (52 + (pv.size : Int) + (W : Int))) = z + (52 + (pv.size : Int) + (W : Int)) := wrap64 _ (by omega) (by omega)
      by_cases he : eg = 0
      · subst he
        go_wp2_with fail
        refine wp_region_quietQ (fun w' => Hid (Below w.heap.size w w')) (by kernel_rfl) (by kernel_rfl) (Lib.hid (HB2.out.drew)) ?_
        iterate 3
          refine valQ ?_ ?_ (by rfl) (fun w' s1 => ?_) ?_ ?_
          rotate_left 2
          focus (go_simp; exact rfl)
          focus (go_simp; exact rfl)
        refine callQ ?_ ?_ ?_ ?_ (by rfl) (fun w' s1 => ?_) (fun w' s1 => ?_) ?_ ?_
        rotate_left 4
        focus (go_simp; first | exact rfl | (refine ⟨?_, ?_⟩ <;> exact rfl))
        focus (exact HLF.out w' s1.out)
        focus (go_simp; exact rfl)
        iterate 2
          refine valQ ?_ ?_ (by rfl) (fun w' s1 => ?_) ?_ ?_
          rotate_left 2
          focus (go_simp; exact rfl)
          focus (go_simp; exact rfl)
        refine callQ ?_ ?_ ?_ ?_ (by rfl) (fun w' s1 => ?_) (fun w' s1 => ?_) ?_ ?_
        rotate_left 4
        focus (go_simp; first | exact rfl | (refine ⟨?_, ?_⟩ <;> exact rfl))
        focus (exact HPV.out w' s1.out)
        focus (go_simp; exact rfl)
        iterate 10
          refine valQ ?_ ?_ (by rfl) (fun w' s1 => ?_) ?_ ?_
          rotate_left 2
          focus (obtain ⟨d0, d4, d9⟩ := HC.out w' s1.out; go_simp; exact rfl)
          focus (go_simp; exact rfl)
        refine nilQ (fun w4 s4 => ?_)
        have HB4 := s4
        clear s4
        go_wp2
        exact ⟨⟨i + 1, _, rfl, by congr 1, by omega, by omega, by omega, HB4⟩, by simp [intOf]; omega⟩
      · have k1 : decide (eg = 0) = false := decide_eq_false he
        go_wp2_with fail
        refine wp_region_quietQ (fun w' => Hid (Below w.heap.size w w')) (by kernel_rfl) (by kernel_rfl) (Lib.hid (HB2.out.drew)) ?_
        iterate 3
          refine valQ ?_ ?_ (by rfl) (fun w' s1 => ?_) ?_ ?_
          rotate_left 2
          focus (go_simp; exact rfl)
          focus (go_simp; exact rfl)
        refine callQ ?_ ?_ ?_ ?_ (by rfl) (fun w' s1 => ?_) (fun w' s1 => ?_) ?_ ?_
        rotate_left 4
        focus (go_simp; first | exact rfl | (refine ⟨?_, ?_⟩ <;> exact rfl))
        focus (exact HLF.out w' s1.out)
        focus (go_simp; exact rfl)
        iterate 2
          refine valQ ?_ ?_ (by rfl) (fun w' s1 => ?_) ?_ ?_
          rotate_left 2
          focus (go_simp; exact rfl)
          focus (go_simp; exact rfl)
        refine callQ ?_ ?_ ?_ ?_ (by rfl) (fun w' s1 => ?_) (fun w' s1 => ?_) ?_ ?_
        rotate_left 4
        focus (go_simp; first | exact rfl | (refine ⟨?_, ?_⟩ <;> exact rfl))
        focus (exact HPV.out w' s1.out)
        focus (go_simp; exact rfl)
        iterate 10
          refine valQ ?_ ?_ (by rfl) (fun w' s1 => ?_) ?_ ?_
          rotate_left 2
          focus (obtain ⟨d0, d4, d9⟩ := HC.out w' s1.out; go_simp; exact rfl)
          focus (go_simp; exact rfl)
        refine nilQ (fun w4 s4 => ?_)
        have HB4 := s4
        clear s4
        go_wp2
        exact ⟨⟨i + 1, _, rfl, by congr 1, by omega, by omega, by omega, HB4⟩, by simp [intOf]; omega⟩
    · obtain ⟨d0, d4, d9⟩ := HC.out wr HB.out
      go_wp2_with fail
      refine (HRM.out wr HB.out).mono ?_
      rintro r w2 ⟨rfl, rfl⟩
      go_wp2
      go_ret
      exact ⟨_, rfl, HB.out⟩
end
end Go.Proofs.YtblkehdpenfhjaaGreatDoor
/-
  Package shard: each rehash.
-/
set_option linter.unusedVariables false
set_option linter.unusedSimpArgs false
namespace Go.Proofs.YtblkehdpenfhjaaGreatDoor
open Go.RowKit Go.Maps Go.ChangeMaps Go.MapKept

section
variable {w w' : World} {a : EA} {D : ED} {X Y : Nat → Prop} {room : Nat} {now disk : Recs} {log : List Value} {F : Nat → Prop}
set_option maxHeartbeats 8000000 in
set_option maxRecDepth 100000 in
theorem eachRehash_calls (h : EngAt w a D X) (hG : Glob w) (hg : Good D) (hXn : ∀ b, w.heap.size ≤ b → X b) (hno : D.nodes + D.most ≤ 1152921504606846976 + cnt D) (js : List Nat) (hj : ∀ j ∈ js, j ≤ 68719476736 ∧ j * D.size < D.L.length) (hl : js.length ≤ 1099511627776) {v : Value} {Z : Nat → Prop}
    (hv : SlIn w v (js.map fun (j : Nat) => Value.int .i64 (j : Int)) Z) (hZ : ∀ b, Z b → ¬ a.own b) :
    Calls Tryz.prog 73 #[.pointer (some ⟨a.eb, 0, none⟩), v, .func (.func 87) #[] #[]] w fun r w' => r = .returned (.tuple #[]) ∧ ∃ D', Asked w w' a D D' X 0 ∧ ∀ j ∈ js, D'.dirty j = false := by
  obtain ⟨A, cap, rfl, hcap, hcells⟩ := hv
  obtain ⟨n, hn⟩ : ∃ n, n = js.length := ⟨_, rfl⟩
  have hml : (js.map fun (j : Nat) => Value.int .i64 (j : Int)).length = n := by rw [List.length_map, hn]
  have HC := Lib.hid (show 0 < n → ∃ b o, A = some ⟨b, o, none⟩ ∧ b < w.heap.size ∧ ¬ a.own b ∧ ∀ i (h : i < js.length), w.cell? ⟨b, o + i, none⟩ = some (.int .i64 (js[i] : Int)) from fun h => by
    obtain ⟨b, o, h1, h2, h3, h4⟩ := hcells (by omega)
    exact ⟨b, o, h1, h2, hZ b h3, fun i hi => by rw [h4 i (by omega), List.getElem_map]⟩)
  rw [hml] at hcap ⊢
  have HN := Lib.hid hn
  have HJ := Lib.hid hj
  rw [← hn] at hl
  have HG := Lib.hid (And.intro hG h.glb)
  have HX := Lib.hid hXn
  have HNO := Lib.hid hno
  have HA0 := Lib.hid (Asked.refl h hg)
  obtain ⟨eb, heb⟩ : ∃ x, x = a.eb := ⟨_, rfl⟩
  have HEB := Lib.hid heb
  rw [← heb]
  clear hcells hml hn hj h heb hZ hG hg hXn hno
  go_enter Tryz.func73, Tryz.ntmps73
  go_wp2
  go_loopw [10] (fun iv wr => ∃ i : Nat, iv = .int .i64 (i : Int) ∧ i ≤ n ∧ Hid (∃ D', Asked w wr a D D' X 0 ∧ ∀ j ∈ js.take i, D'.dirty j = false)) (fun iv _ => n - (intOf iv).toNat)
  case atStart => exact ⟨0, rfl, Nat.zero_le _, Lib.hid ⟨D, HA0.out, fun j hj => by simp at hj⟩⟩
  case round =>
    obtain ⟨i, rfl, hin, HI⟩ := hrel
    by_cases hlt : i < n
    · obtain ⟨b, o, rfl, hbl, hbo, hc⟩ := HC.out (by omega)
      obtain ⟨D1, hA1, hd1⟩ := HI.out
      have hij : i < js.length := by rw [← HN.out]; exact hlt
      have c1 := (hA1.turn.cell (p := ⟨b, o + i, none⟩) hbl hbo).trans (hc i hij)
      have hjj := HJ.out js[i] (List.getElem_mem _)
      have hrh := rehash_calls hA1.eng (HG.out.1.turn hA1.turn HG.out.2) hA1.good js[i] hjj.1 (by rw [hA1.like.size, hA1.like.L]; exact hjj.2) (fun b hb => HX.out b (Nat.le_trans hA1.turn.size hb)) (by have := hA1.cnt; rw [hA1.like.most]; have := HNO.out; omega)
      have HTK := Lib.hid (show js.take (i + 1) = js.take i ++ [js[i]] from List.take_succ_eq_append_getElem hij)
      obtain ⟨j, hje⟩ : ∃ j, j = js[i] := ⟨_, rfl⟩
      rw [← hje] at c1 HTK hrh
      rw [← HEB.out] at hrh
      have HRH := Lib.hid hrh
      have HA1 := Lib.hid hA1
      have HD1 := Lib.hid hd1
      clear hje hc hij hrh hA1 hd1 hjj
      go_wp2_with fail
      refine (HRH.out).mono ?_
      rintro r w2 ⟨rfl, D2, hE2, hL2, hG2, hd2, hk2, _, hc2, _, hT2⟩
      have HI2 := Lib.hid (show ∃ D', Asked w w2 a D D' X 0 ∧ ∀ j ∈ js.take (i + 1), D'.dirty j = false from ⟨D2, HA1.out.trans (k := 0) (m := 0) ⟨hE2, hL2, hG2, by omega, hT2⟩, fun q hq => by
        rw [HTK.out] at hq
        rcases List.mem_append.1 hq with hq | hq
        · exact hk2 q (HD1.out q hq)
        · rw [List.mem_singleton] at hq; subst hq; exact hd2⟩)
      clear hE2 hL2 hG2 hd2 hk2 hc2 hT2 c1
      go_wp2
      exact ⟨⟨i + 1, by go_num, by omega, HI2⟩, by simp [intOf]; omega⟩
    · obtain rfl : i = n := by omega
      have hfin := HI.out
      rw [List.take_of_length_le (by rw [HN.out]; exact Nat.le_refl _)] at hfin
      have HFIN := Lib.hid hfin
      clear hfin
      go_wp2
      go_end0
      exact ⟨rfl, HFIN.out⟩
/-- nothing is unwritten -/
def ED.flushed (D : ED) : ED := { D with unwr := fun _ => false }
theorem EngIn.flushed {lv : Value} {rv : Nat → Option Value} {sf : Lit → Option Value} {ns : Nat} (h : EngIn w a D X lv rv sf ns) (hM : IntMap Tryz.prog 3 w' a.ub (fun _ => none)) (ht : Turn (fun b => b = a.ub) w w') : EngIn w' a D.flushed X lv rv sf ns ∧ Turn a.own w w' := by
  have hT : Turn a.own w w' := ht.mono fun b hb => .inl (.inr (.inr (.inr (.inl hb))))
  have hne : ∀ b, a.own b → b ≠ a.ub → b < w.heap.size → w'.heap[b]? = w.heap[b]? := fun b _ h1 h2 => ht.block b h2 h1
  refine ⟨⟨(ht.block _ (h.low (.inl rfl)) h.ne3).trans h.blk, h.rowsM.keep (ht.block _ h.rowsM.lt h.ap2), h.dirtyM.keep (ht.block _ h.dirtyM.lt h.ap4), hM, h.spineM.keep (ht.block _ h.spineM.lt h.ap6.symm),
    h.list.keep hT.size fun b hb hX => hT.block b hb (h.apX b hX), fun j => (h.grid j).keep hT.size fun b hb hX => hT.block b hb (h.apX b hX), h.spv, h.nsle, h.ap1, h.ap2, h.ap3, h.ap4, h.ap5, h.ap6, h.apX, ⟨h.ok.W1, h.ok.W2, h.ok.B, h.ok.space, h.ok.age, h.ok.small, h.ok.len, h.ok.nodes⟩, h.glb, h.nl⟩, hT⟩
theorem cnt_flushed (D : ED) : cnt D.flushed = cnt D := rfl
theorem Good.flushed (h : Good D) : Good D.flushed := ⟨h.rows, h.spine⟩
end
end Go.Proofs.YtblkehdpenfhjaaGreatDoor
