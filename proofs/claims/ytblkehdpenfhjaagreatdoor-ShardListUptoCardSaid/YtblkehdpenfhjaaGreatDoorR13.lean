import Derived.Test.YtblkehdpenfhjaaGreatDoorR12
set_option linter.unnecessarySimpa false
set_option linter.unusedVariables false
set_option linter.unusedSimpArgs false
/-
  ShardList walked.
-/
set_option linter.unusedVariables false
set_option linter.unusedSimpArgs false
namespace Go.Proofs.YtblkehdpenfhjaaGreatDoor
open Go.RowKit Go.Maps Go.ChangeMaps Go.MapKept

section
variable {w w' : World} {X Y : Nat → Prop}
set_option maxHeartbeats 16000000 in
set_option maxRecDepth 100000 in
theorem list_calls (x y : Int) (g : List (List ByteArray)) (hl : g.length ≤ 140737488351232) (hr : ∀ r ∈ g, r.length ≤ 140737488351232) {v1 v2 : Value} (hv : GridIn w v1 g (fun b => b < w.heap.size)) (ads : List (Int × Int)) (hal : ads.length ≤ 140737488351232) (ha : AddrIn w v2 ads (fun b => b < w.heap.size)) (hG : Glob w) (fl : Bool) :
    Calls Tryz.prog 5 #[.int .i64 x, .int .i64 y, v1, v2, .bool fl] w fun r w' => r = .returned (.bool true) ∧ Below w.heap.size w w' := by
  obtain ⟨i0, hi, hz0, hz1, hz2⟩ := info_parts infoS
  have HOP := Lib.hid (opts_calls x y w)
  have HBS := Lib.hid (fun w' (hb : Below w.heap.size w w') => batches_calls (w := w') g hl hr (hv.keep hb.size fun b hlt _ => hb.block b hlt))
  obtain ⟨A, cap, rfl, hcap, hcl⟩ := ha
  obtain ⟨n, hn⟩ : ∃ n, n = ads.length := ⟨_, rfl⟩
  have HCL := Lib.hid (show 0 < n → ∃ b o, A = some ⟨b, o, none⟩ ∧ b < w.heap.size ∧ ∀ i (h : i < ads.length), w.cell? ⟨b, o + i * 2, none⟩ = some (.int .i64 ads[i].1) ∧ w.cell? ⟨b, o + i * 2 + 1, none⟩ = some (.int .i64 ads[i].2) from fun h => by
    obtain ⟨b, o, h1, h2, h3, h4⟩ := hcl (by rw [← hn]; exact h)
    exact ⟨b, o, h1, h2, h4⟩)
  have HN := Lib.hid hn
  have HG := Lib.hid hG
  rw [← hn] at hcap hal ⊢
  clear hl hr hv hcl hn hG
  go_enter Tryz.func5, Tryz.ntmps5
  go_wp2_with fail
  refine (HOP.out).mono ?_
  rintro r w1 ⟨W, B, rfl, hW1, hW2, hB, hb1⟩
  have HWB := Lib.hid (And.intro hW1 (And.intro hW2 hB))
  have HB1 := Lib.hid hb1
  clear hW1 hW2 hB hb1
  unfold optV
  go_wp2_with fail
  obtain ⟨w2, hw2⟩ : ∃ w2, w2 = w1.alloc (.cells #[.int .i64 3, .int .i64 W, .int .i64 0, .int .i64 0, .int .i64 0, .int .i64 B] 25) := ⟨_, rfl⟩
  have hb2 : Below w1.heap.size w1 w2 := by rw [hw2]; exact (Below.refl _ _).alloc (Nat.le_refl _) _
  have hbx : w2.heap[w1.heap.size]? = some (.cells #[.int .i64 3, .int .i64 W, .int .i64 0, .int .i64 0, .int .i64 0, .int .i64 B] 25 (0, 0)) := by rw [hw2]; exact (MapKept.heap_alloc w1 _).1
  have hlt : w1.heap.size < w2.heap.size := block_lt hbx
  obtain ⟨tb, htb⟩ : ∃ tb, tb = w1.heap.size := ⟨_, rfl⟩
  have HC := Lib.hid (show ∀ w', Below w2.heap.size w2 w' → ∀ k : Nat, w'.cell? ⟨tb, k, none⟩ = w2.cell? ⟨tb, k, none⟩ from fun w' hb k => hb.cell (p := ⟨tb, k, none⟩) (by rw [htb]; exact hlt))
  have HC0 := Lib.hid (show ∀ k (hk : k < 6), w2.cell? ⟨tb, k, none⟩ = some ((#[.int .i64 3, .int .i64 W, .int .i64 0, .int .i64 0, .int .i64 0, .int .i64 B] : Array Value)[k]'hk) from fun k hk => by rw [htb]; exact cell_of_block (off := k) hbx hk)
  have HB2 := Lib.hid (HB1.out.trans (hb2.mono HB1.out.size))
  try rw [← hw2]
  rw [← htb]
  clear hw2 hb2 hbx hlt htb
  refine (HBS.out w2 HB2.out).mono ?_
  rintro r w3 ⟨l, u, rfl, hBt, hRows, hb3⟩
  obtain ⟨K, hKl⟩ : ∃ K, K = l.length := ⟨_, rfl⟩
  have hu : ∃ A c, u = .slice A K c := by
    obtain ⟨vs, h1, _⟩ := hRows
    obtain ⟨A, c, h, _⟩ := own_form h1
    exact ⟨A, c, by rw [hKl]; exact h⟩
  obtain ⟨Au, cu, rfl⟩ := hu
  have HB3 := Lib.hid (HB2.out.trans (hb3.mono HB2.out.size))
  have HBT := Lib.hid hBt
  have HLB := Lib.hid (show ∀ i, (l.take i).flatten.length ≤ 1800 from fun i => (hBt.take i).2)
  have HTB := Lib.hid (show ∀ w', Below w3.heap.size w3 w' → w'.cell? ⟨tb, 1, none⟩ = some (.int .i64 (W : Int)) from fun w' hb => (HC.out w' (hb3.trans (hb.mono hb3.size)) 1).trans (HC0.out 1 (by decide)))
  have hgrid := hRows.grid.mono (Y := fun b => b < w3.heap.size) fun b hb _ => hb
  obtain ⟨vs, ⟨A', cap', hve, hcapv, hcellv⟩, hvl, hrowv⟩ := hgrid
  injection hve with e1 e2 e3
  have HKL := Lib.hid (show K = l.length ∧ K ≤ 30 ∧ K = vs.length from ⟨hKl, by rw [hKl]; exact hBt.few, e2⟩)
  have HLC := Lib.hid (show 0 < K → ∃ b o, Au = some ⟨b, o, none⟩ ∧ b < w3.heap.size ∧ ∀ i (h : i < vs.length), w3.cell? ⟨b, o + i, none⟩ = some vs[i] from fun h0 => by
    obtain ⟨b, o, g1, g2, g3, g4⟩ := hcellv (by rw [← e2]; exact h0)
    exact ⟨b, o, by rw [e1]; exact g1, g2, g4⟩)
  have HRW := Lib.hid hrowv
  have d0 := (HC.out w3 hb3 0).trans (HC0.out 0 (by decide))
  have d1 := (HC.out w3 hb3 1).trans (HC0.out 1 (by decide))
  have d2 := (HC.out w3 hb3 2).trans (HC0.out 2 (by decide))
  have d3 := (HC.out w3 hb3 3).trans (HC0.out 3 (by decide))
  have d4 := (HC.out w3 hb3 4).trans (HC0.out 4 (by decide))
  have d5 := (HC.out w3 hb3 5).trans (HC0.out 5 (by decide))
  dsimp only [List.getElem_toArray, List.getElem_cons_zero, List.getElem_cons_succ] at d0 d1 d2 d3 d4 d5
  have HGR := Lib.hid (grown_calls (w := w3) HWB.out.1 HWB.out.2.1 HWB.out.2.2 [] Batches.nil (v := .slice none 0 0) ⟨[], ⟨none, 0, rfl, Nat.le_refl _, fun h => absurd h (Nat.lt_irrefl _)⟩, rfl, fun k h => absurd h (Nat.not_lt_zero _)⟩ (HG.out.keep HB3.out))
  unfold optV at HGR
  clear hBt hRows hb3 hKl e1 e2 e3 hcellv hcapv hvl hrowv
  go_wp2_with fail
  refine (HGR.out).mono ?_
  rintro r w4 ⟨a, D, now, log, F, rfl, hGr⟩
  have HA4 := Lib.hid (AllS.start (Grew.listS (L := []) hGr))
  obtain ⟨eb, heb⟩ : ∃ eb, eb = a.eb := ⟨_, rfl⟩
  have HEB := Lib.hid heb
  rw [← heb]
  clear hGr d0 d1 d2 d3 d4 d5 heb HGR HBS HOP
  go_wp2_with fail
  go_loopw [16, 17] (fun tv iv wr => ∃ (i st : Nat) (D1 : ED) (now1 : Recs) (log1 : List Value) (F1 FS1 : Nat → Prop) (At : Option Addr) (ct nT : Nat), tv = .slice At nT ct ∧ iv = .int .i64 (i : Int) ∧ i ≤ K ∧ st ≤ 2 * i ∧ Hid (nT = (l.take i).flatten.length ∧ AllS w3 wr a W B (l.take i).flatten st 0 D1 now1 log1 F1 FS1 At ct)) (fun _ iv _ => K + 1 - (intOf iv).toNat)
  case atStart => exact ⟨0, 0, D, now, log, F, F, none, 0, 0, rfl, rfl, by omega, by omega, Lib.hid ⟨rfl, HA4.out⟩⟩
  case round =>
    obtain ⟨i, st, D1, now1, log1, F1, FS1, At, ct, nT, rfl, rfl, hiK, hst, HI⟩ := hrel
    have hKb : K ≤ 30 := HKL.out.2.1
    by_cases h1 : i < K
    · obtain ⟨lb, lo, rfl, hlb, hlc⟩ := HLC.out (by omega)
      have hiv : i < vs.length := by rw [← HKL.out.2.2]; exact h1
      have hig : i < l.length := by rw [← HKL.out.1]; exact h1
      have hsl := (HRW.out i hiv hig)
      have hro := HBT.out.rows _ (List.getElem_mem hig)
      have hft := flat_take l i hig
      obtain ⟨xs, hxs⟩ : ∃ r, r = l[i] := ⟨_, rfl⟩
      rw [← hxs] at hsl hro hft
      obtain ⟨rv, hrv⟩ : ∃ rv, rv = vs[i] := ⟨_, rfl⟩
      have HLCI := Lib.hid (show ∀ w', Below w3.heap.size w3 w' → w'.cell? ⟨lb, lo + i, none⟩ = some rv from fun w' hb => (hb.cell (p := ⟨lb, lo + i, none⟩) hlb).trans (by rw [hrv]; exact hlc i hiv))
      rw [← hrv] at hsl
      obtain ⟨Ar, cr, hrs, hcr, hrc⟩ := hsl
      rw [List.length_map] at hrs hcr
      obtain ⟨rb, ro, hAr, hrb, _, hrcc⟩ := hrc (by rw [List.length_map]; omega)
      have hsl := HRW.out i hiv hig
      rw [← hxs, ← hrv, hrs] at hsl
      obtain ⟨T, hT⟩ : ∃ T, T = (l.take i).flatten := ⟨_, rfl⟩
      obtain ⟨T2, hT2⟩ : ∃ T, T = (l.take (i + 1)).flatten := ⟨_, rfl⟩
      have HTL := Lib.hid (show T.length ≤ 1800 ∧ T2.length ≤ 1800 ∧ T2 = T ++ xs from ⟨by rw [hT]; exact HLB.out i, by rw [hT2]; exact HLB.out (i + 1), by rw [hT2, hT]; exact hft⟩)
      have HAL := Lib.hid (show nT = T.length ∧ AllS w3 wr a W B T st 0 D1 now1 log1 F1 FS1 At ct by rw [hT]; exact HI.out)
      have HTE := Lib.hid hT2
      have hap := HAL.out.2.list.append xs hro.2.2 (by omega) hro.2.1 (by have := HTL.out; have h3 := congrArg List.length this.2.2; rw [List.length_append] at h3; omega) (by have := HKL.out.2.1; omega) (by omega)
        (hsl.keep HAL.out.2.list.below.size fun b hb _ => HAL.out.2.list.below.block b hb) (fun b hb => ⟨fun ho => by have := HAL.out.2.list.far b (.inl ho); omega, fun ho => by have := HAL.out.2.list.far b (.inr ho); omega⟩)
      rw [← HEB.out] at hap
      obtain ⟨m, hm⟩ : ∃ m, m = xs.length := ⟨_, rfl⟩
      have HM := Lib.hid (show m = xs.length ∧ 1 ≤ m ∧ m ≤ 60 from ⟨hm, by rw [hm]; exact hro.1, by rw [hm]; exact hro.2.1⟩)
      subst hAr
      rw [← hm] at hrs hap
      subst hrs
      have HAP := Lib.hid hap
      have HNEWS := Lib.hid (show ∀ w', Below w3.heap.size w3 w' → ∀ (j : Nat) v, (xs.map Value.string)[j]? = some v → w'.cell? ((⟨rb, ro, none⟩ : Addr).add j) = some v from fun w' hb j v hv => by
        obtain ⟨hj, rfl⟩ := List.getElem?_eq_some_iff.1 hv
        rw [Addr.add_lit]
        exact (hb.cell (p := ⟨rb, ro + j, none⟩) hrb).trans (hrcc j hj))
      have hck := HLCI.out wr HAL.out.2.list.below
      clear hsl hro hft hxs hrv hlc hlb hiv hig hcr hrc hrb hrcc hT hT2 hap hm HI
      go_wp2_with fail
      refine (HAP.out).mono ?_
      rintro r w6 ⟨rfl, D6, now6, log6, F6, FS6, hL6, hT6, hF6, hFS6⟩
      have hly := HAL.out.2.lies hL6 hT6 hF6 hFS6
      rw [← HAL.out.1] at hly
      have HLY := Lib.hid hly
      have HL6 := Lib.hid hL6
      clear hck
      have hck := HLCI.out w6 hL6.below
      have hs6 := hL6.below.size
      have HNT := Lib.hid (show nT ≤ 1800 from by rw [HAL.out.1]; exact HTL.out.1)
      have hmp : 0 < m := by have := HM.out; omega
      clear hly hL6 hT6 hF6 hFS6 HAP
      go_wp2_with (at_builtin; go_must (refine wpList_append_lies _ rfl (.tmp 53) (.tmp 57) 32 rfl w3.heap.size 9 i0 (.string ⟨#[]⟩) 1 16 Tryz.underlying32 hi hz0 hz1 hz2 rfl (by decide) _ _ _ rfl HLY.out.1 ⟨rb, ro, none⟩ m cr (xs.map Value.string) rfl (by rw [List.length_map, ← HM.out.1]; simp) (HNEWS.out w6 HL6.out.below) (by intro u hu; obtain ⟨z, _, rfl⟩ := List.mem_map.1 hu; rfl) hmp (by have := HNT.out; have := HM.out; unfold maxLen; omega) (by have := HNT.out; have := HM.out; omega) hs6 _ rfl ?_))
      intro g3 cap3 w7 hown7 hgrow hat hltg
      have HA7 := Lib.hid (show AllS w3 w7 a W B T2 (st + 1) 0 D6 now6 log6 (fun b => F6 b ∨ b = g3) FS6 (some ⟨g3, 0, none⟩) cap3 from by
        rw [HTL.out.2.2]
        refine AllS.grew (L := T) (A := At) (c := ct) HL6.out ?_ ?_ ?_ hltg ?_
        · rw [← HAL.out.1]; exact HLY.out.2
        · rw [← HAL.out.1]; exact hgrow
        · rw [← HAL.out.1]; exact hat
        · rw [← HAL.out.1, ← HM.out.1]; exact hown7)
      have HNT2' := Lib.hid (show nT + m = T2.length from by rw [HTL.out.2.2, List.length_append, ← HAL.out.1, ← HM.out.1])
      obtain ⟨nT2, hnT2⟩ : ∃ x, x = nT + m := ⟨_, rfl⟩
      have HNT2 := Lib.hid (show nT2 = (l.take (i + 1)).flatten.length from by rw [hnT2, HNT2'.out, HTE.out])
      rw [← hnT2]
      have HA7 := Lib.hid (show AllS w3 w7 a W B (l.take (i + 1)).flatten (st + 1) 0 D6 now6 log6 (fun b => F6 b ∨ b = g3) FS6 (some ⟨g3, 0, none⟩) cap3 from by rw [← HTE.out]; exact HA7.out)
      clear hown7 hgrow hat hltg hck hs6 hmp hnT2 HNT2' HLY HL6
      go_wp2_with fail
      refine (num_calls 0 w7).mono ?_
      rintro r w7b ⟨rfl, rfl⟩
      have hst2 : st ≤ 90 := by omega
      by_cases hin : i < n
      · have kin : decide ((i : Int) < (n : Int)) = true := decide_eq_true (by omega)
        have kin2 : (i : Int) < (n : Int) := by omega
        obtain ⟨b, o, rfl, hb, hcells⟩ := HCL.out (by omega)
        have hia : i < ads.length := by rw [← HN.out]; exact hin
        have HCW := Lib.hid (fun (w' : World) (hb' : Below w.heap.size w w') => And.intro ((hb'.cell (p := ⟨b, o + i * 2, none⟩) hb).trans (hcells i hia).1) ((hb'.cell (p := ⟨b, o + i * 2 + 1, none⟩) hb).trans (hcells i hia).2))
        obtain ⟨p, hp⟩ : ∃ p, p = ads[i].1 := ⟨_, rfl⟩
        obtain ⟨q, hq⟩ : ∃ q, q = ads[i].2 := ⟨_, rfl⟩
        rw [← hp, ← hq] at HCW
        obtain ⟨d0, d1⟩ := HCW.out w7 (HB3.out.trans (HA7.out.list.below.mono HB3.out.size))
        have hnd := HA7.out.node (HLB.out (i + 1)) (by omega) (by omega) p q
        obtain ⟨sd, hsd⟩ : ∃ sd, sd = (nodeA W (l.take (i + 1)).flatten p q).1 := ⟨_, rfl⟩
        obtain ⟨se, hse⟩ : ∃ se, se = (nodeA W (l.take (i + 1)).flatten p q).2 := ⟨_, rfl⟩
        have HSD := Lib.hid (And.intro hsd hse)
        rw [← hsd, ← hse, ← HEB.out] at hnd
        unfold addrV at hnd
        have HND := Lib.hid hnd
        clear hnd hsd hse hp hq hcells hb hia
        go_wp2_with fail
        refine (HND.out).mono ?_
        rintro r w8 ⟨rfl, D8, hA8⟩
        have HA8 := Lib.hid hA8
        clear hA8 d0 d1 HND
        have HMQ := Lib.hid (show ∀ w', Hid (Below w8.heap.size w8 w') → Calls Tryz.prog 25 #[.int .i64 W, .agg #[.int .i64 p, .int .i64 q], .slice (some ⟨g3, 0, none⟩) nT2 cap3] w' fun e w'' => e = .returned (.tuple #[.string sd, .int .i64 se]) ∧ Hid (Below w8.heap.size w8 w'') from fun w' s => by
          have := (HA8.out.keep s.out).mthNode (HLB.out (i + 1)) p q
          rw [← HSD.out.1, ← HSD.out.2, ← HNT2.out] at this
          unfold addrV at this
          exact this.mono fun e w'' ⟨h1, h2⟩ => ⟨h1, Lib.hid (s.out.trans (h2.mono s.out.size))⟩)
        have HCQ := Lib.hid (show ∀ w', Hid (Below w8.heap.size w8 w') → w'.cell? ⟨tb, 1, none⟩ = some (.int .i64 (W : Int)) ∧ w'.cell? ⟨b, o + i * 2, none⟩ = some (.int .i64 p) ∧ w'.cell? ⟨b, o + i * 2 + 1, none⟩ = some (.int .i64 q) from fun w' s => by
          have h1 := (HA8.out.keep s.out).list.below
          have h2 := HCW.out w' (HB3.out.trans (h1.mono HB3.out.size))
          exact ⟨HTB.out w' h1, h2.1, h2.2⟩)
        go_wp2_with fail
        refine wp_region_quietQ (fun w' => Hid (Below w8.heap.size w8 w')) (by kernel_rfl) (by kernel_rfl) (Lib.hid (below_drewN (Below.refl _ w8) 1)) ?_
        iterate 7
          refine valQ ?_ ?_ (by rfl) (fun w' s1 => ?_) ?_ ?_
          rotate_left 2
          focus (obtain ⟨e1, e2, e3⟩ := HCQ.out w' s1; go_simp; exact rfl)
          focus (go_simp; exact rfl)
        refine callQ ?_ ?_ ?_ ?_ (by rfl) (fun w' s1 => ?_) (fun w' s1 => ?_) ?_ ?_
        rotate_left 4
        focus (go_simp; first | exact rfl | (refine ⟨?_, ?_⟩ <;> exact rfl))
        focus (exact HMQ.out w' s1)
        focus (go_simp; exact rfl)
        iterate 5
          refine valQ ?_ ?_ (by rfl) (fun w' s1 => ?_) ?_ ?_
          rotate_left 2
          focus (go_simp; exact rfl)
          focus (go_simp; exact rfl)
        refine nilQ (fun w9 s9 => ?_)
        have HA9 := Lib.hid (HA8.out.keep s9.out)
        clear s9 HMQ HCQ
        go_wp2_with fail
        refine (num_calls se w9).mono ?_
        rintro r w10 ⟨rfl, rfl⟩
        go_wp2_with fail
        refine (num_calls se w9).mono ?_
        rintro r w10 ⟨rfl, rfl⟩
        cases fl with
        | false =>
          go_wp2
          exact ⟨⟨i + 1, st + 1, _, _, _, _, _, _, _, _, rfl, by congr 1, by omega, by omega, Lib.hid ⟨HNT2.out, HA9.out⟩⟩, by simp [intOf]; omega⟩
        | true =>
          have hfl := HA9.out.flush (HLB.out (i + 1)) (by omega) (by omega)
          rw [← HEB.out] at hfl
          have HFL := Lib.hid hfl
          clear hfl
          go_wp2_with fail
          refine (HFL.out).mono ?_
          rintro r w11 ⟨rfl, D11, now11, log11, F11, FS11, hA11⟩
          have HA11 := Lib.hid hA11
          clear hA11
          go_wp2_with fail
          refine (num_calls 0 w11).mono ?_
          rintro r w12 ⟨rfl, rfl⟩
          go_wp2
          exact ⟨⟨i + 1, st + 1 + 1, _, _, _, _, _, _, _, _, rfl, by congr 1, by omega, by omega, Lib.hid ⟨HNT2.out, HA11.out⟩⟩, by simp [intOf]; omega⟩
      · have kin : decide ((i : Int) < (n : Int)) = false := decide_eq_false (by omega)
        have kin2 : ¬ (i : Int) < (n : Int) := by omega
        cases fl with
        | false =>
          go_wp2
          exact ⟨⟨i + 1, st + 1, _, _, _, _, _, _, _, _, rfl, by congr 1, by omega, by omega, Lib.hid ⟨HNT2.out, HA7.out⟩⟩, by simp [intOf]; omega⟩
        | true =>
          have hfl := HA7.out.flush (HLB.out (i + 1)) (by omega) (by omega)
          rw [← HEB.out] at hfl
          have HFL := Lib.hid hfl
          clear hfl
          go_wp2_with fail
          refine (HFL.out).mono ?_
          rintro r w11 ⟨rfl, D11, now11, log11, F11, FS11, hA11⟩
          have HA11 := Lib.hid hA11
          clear hA11
          go_wp2_with fail
          refine (num_calls 0 w11).mono ?_
          rintro r w12 ⟨rfl, rfl⟩
          go_wp2
          exact ⟨⟨i + 1, st + 1 + 1, _, _, _, _, _, _, _, _, rfl, by congr 1, by omega, by omega, Lib.hid ⟨HNT2.out, HA11.out⟩⟩, by simp [intOf]; omega⟩
    · have hst2 : st ≤ 90 := by omega
      have hik : i = l.length := by rw [← HKL.out.1]; omega
      have HLF := Lib.hid (show nT = l.flatten.length ∧ l.flatten.length ≤ 1800 ∧ AllS w3 wr a W B l.flatten st 0 D1 now1 log1 F1 FS1 At ct from by
        have h2 := HI.out
        have h3 := HLB.out i
        rw [List.take_of_length_le (Nat.le_of_eq hik.symm)] at h2 h3
        exact ⟨h2.1, h3, h2.2⟩)
      obtain ⟨Lf, hLf⟩ : ∃ L, L = l.flatten := ⟨_, rfl⟩
      rw [← hLf] at HLF
      have HLL := Lib.hid HLF.out.2.1
      have HA0 := Lib.hid HLF.out.2.2
      have HNF := Lib.hid HLF.out.1
      clear hLf hik HI HLF
      go_wp2_with fail
      clear h1
      go_loopw [23] (fun iv wr => ∃ (k : Nat) (D2 : ED), iv = .int .i64 (k : Int) ∧ k ≤ 40 ∧ Hid (AllS w3 wr a W B Lf st 0 D2 now1 log1 F1 FS1 At ct)) (fun iv _ => 41 - (intOf iv).toNat)
      case atStart => exact ⟨0, D1, rfl, by omega, HA0⟩
      case round =>
        obtain ⟨k, D2, rfl, hk40, HA⟩ := hrel
        by_cases hkn : k < n
        · have q1 : decide ((k : Int) < (n : Int)) = true := decide_eq_true (by omega)
          have q2 : (k : Int) < (n : Int) := by omega
          by_cases hk4 : k < 40
          · have q3 : decide ((k : Int) < 40) = true := decide_eq_true (by omega)
            have q4 : (k : Int) < 40 := by omega
            obtain ⟨b, o, rfl, hb, hcells⟩ := HCL.out (by omega)
            have hia : k < ads.length := by rw [← HN.out]; exact hkn
            have HCW := Lib.hid (fun (w' : World) (hb' : Below w.heap.size w w') => And.intro ((hb'.cell (p := ⟨b, o + k * 2, none⟩) hb).trans (hcells k hia).1) ((hb'.cell (p := ⟨b, o + k * 2 + 1, none⟩) hb).trans (hcells k hia).2))
            obtain ⟨p, hp⟩ : ∃ p, p = ads[k].1 := ⟨_, rfl⟩
            obtain ⟨q, hq⟩ : ∃ q, q = ads[k].2 := ⟨_, rfl⟩
            rw [← hp, ← hq] at HCW
            obtain ⟨d0, d1⟩ := HCW.out wr (HB3.out.trans (HA.out.list.below.mono HB3.out.size))
            have hnd := HA.out.node HLL.out (by omega) (by omega) p q
            obtain ⟨sd, hsd⟩ : ∃ sd, sd = (nodeA W Lf p q).1 := ⟨_, rfl⟩
            obtain ⟨se, hse⟩ : ∃ se, se = (nodeA W Lf p q).2 := ⟨_, rfl⟩
            have HSD := Lib.hid (And.intro hsd hse)
            rw [← hsd, ← hse, ← HEB.out] at hnd
            unfold addrV at hnd
            have HND := Lib.hid hnd
            clear hnd hsd hse hp hq hcells hb hia
            go_wp2_with fail
            refine (HND.out).mono ?_
            rintro r w8 ⟨rfl, D8, hA8⟩
            have HA8 := Lib.hid hA8
            clear hA8 d0 d1 HND
            have HMQ := Lib.hid (show ∀ w', Hid (Below w8.heap.size w8 w') → Calls Tryz.prog 25 #[.int .i64 W, .agg #[.int .i64 p, .int .i64 q], .slice At nT ct] w' fun e w'' => e = .returned (.tuple #[.string sd, .int .i64 se]) ∧ Hid (Below w8.heap.size w8 w'') from fun w' s => by
              have := (HA8.out.keep s.out).mthNode HLL.out p q
              rw [← HSD.out.1, ← HSD.out.2, ← HNF.out] at this
              unfold addrV at this
              exact this.mono fun e w'' ⟨h1, h2⟩ => ⟨h1, Lib.hid (s.out.trans (h2.mono s.out.size))⟩)
            have HCQ := Lib.hid (show ∀ w', Hid (Below w8.heap.size w8 w') → w'.cell? ⟨tb, 1, none⟩ = some (.int .i64 (W : Int)) ∧ w'.cell? ⟨b, o + k * 2, none⟩ = some (.int .i64 p) ∧ w'.cell? ⟨b, o + k * 2 + 1, none⟩ = some (.int .i64 q) from fun w' s => by
              have h1 := (HA8.out.keep s.out).list.below
              have h2 := HCW.out w' (HB3.out.trans (h1.mono HB3.out.size))
              exact ⟨HTB.out w' h1, h2.1, h2.2⟩)
            go_wp2_with fail
            refine wp_region_quietQ (fun w' => Hid (Below w8.heap.size w8 w')) (by kernel_rfl) (by kernel_rfl) (Lib.hid (below_drewN (Below.refl _ w8) 1)) ?_
            iterate 7
              refine valQ ?_ ?_ (by rfl) (fun w' s1 => ?_) ?_ ?_
              rotate_left 2
              focus (obtain ⟨e1, e2, e3⟩ := HCQ.out w' s1; go_simp; exact rfl)
              focus (go_simp; exact rfl)
            refine callQ ?_ ?_ ?_ ?_ (by rfl) (fun w' s1 => ?_) (fun w' s1 => ?_) ?_ ?_
            rotate_left 4
            focus (go_simp; first | exact rfl | (refine ⟨?_, ?_⟩ <;> exact rfl))
            focus (exact HMQ.out w' s1)
            focus (go_simp; exact rfl)
            iterate 5
              refine valQ ?_ ?_ (by rfl) (fun w' s1 => ?_) ?_ ?_
              rotate_left 2
              focus (go_simp; exact rfl)
              focus (go_simp; exact rfl)
            refine nilQ (fun w9 s9 => ?_)
            have HA9 := Lib.hid (HA8.out.keep s9.out)
            clear s9 HMQ HCQ
            go_wp2_with fail
            refine (num_calls se w9).mono ?_
            rintro r w10 ⟨rfl, rfl⟩
            go_wp2_with fail
            refine (num_calls se w9).mono ?_
            rintro r w10 ⟨rfl, rfl⟩
            go_wp2
            exact ⟨⟨k + 1, D8, by congr 1, by omega, HA9⟩, by simp [intOf]; omega⟩
          · have q3 : decide ((k : Int) < 40) = false := decide_eq_false (by omega)
            have q4 : ¬ (k : Int) < 40 := by omega
            have HTE1 := Lib.hid (show ∀ (wx : World) (rx : Nat) (Dx : ED), rx ≤ 900 → AllS w3 wx a W B Lf st rx Dx now1 log1 F1 FS1 At ct → ∀ z : Int, Calls Tryz.prog 27 #[.pointer (some ⟨eb, 0, none⟩), .int .i64 W, .slice At nT ct, .int .i64 z] wx fun e w' => e = .returned (.bool true) ∧ ∃ D', AllS w3 w' a W B Lf st (rx + 3) D' now1 log1 F1 FS1 At ct from fun wx rx Dx hrx hA z => by
              have := hA.tells HLL.out (by omega) hrx z
              rw [← HEB.out, ← HNF.out] at this
              exact this)
            have d1 := HTB.out wr HA.out.list.below
            go_wp2_with fail
            refine (HTE1.out wr 0 D2 (by omega) HA.out _).mono ?_
            rintro r w5 ⟨rfl, D5, hA5⟩
            have HA5 := Lib.hid hA5
            clear d1
            have d1 := HTB.out w5 hA5.list.below
            clear hA5
            go_wp2_with fail
            refine (HTE1.out w5 _ D5 (by omega) HA5.out _).mono ?_
            rintro r w6 ⟨rfl, D6, hA6⟩
            have HFIN := Lib.hid (HB3.out.trans (hA6.list.below.mono HB3.out.size))
            clear hA6 d1
            go_wp2
            go_ret
            exact ⟨rfl, HFIN.out⟩
        · have q1 : decide ((k : Int) < (n : Int)) = false := decide_eq_false (by omega)
          have q2 : ¬ (k : Int) < (n : Int) := by omega
          have HTE1 := Lib.hid (show ∀ (wx : World) (rx : Nat) (Dx : ED), rx ≤ 900 → AllS w3 wx a W B Lf st rx Dx now1 log1 F1 FS1 At ct → ∀ z : Int, Calls Tryz.prog 27 #[.pointer (some ⟨eb, 0, none⟩), .int .i64 W, .slice At nT ct, .int .i64 z] wx fun e w' => e = .returned (.bool true) ∧ ∃ D', AllS w3 w' a W B Lf st (rx + 3) D' now1 log1 F1 FS1 At ct from fun wx rx Dx hrx hA z => by
            have := hA.tells HLL.out (by omega) hrx z
            rw [← HEB.out, ← HNF.out] at this
            exact this)
          have d1 := HTB.out wr HA.out.list.below
          go_wp2_with fail
          refine (HTE1.out wr 0 D2 (by omega) HA.out _).mono ?_
          rintro r w5 ⟨rfl, D5, hA5⟩
          have HA5 := Lib.hid hA5
          clear d1
          have d1 := HTB.out w5 hA5.list.below
          clear hA5
          go_wp2_with fail
          refine (HTE1.out w5 _ D5 (by omega) HA5.out _).mono ?_
          rintro r w6 ⟨rfl, D6, hA6⟩
          have HFIN := Lib.hid (HB3.out.trans (hA6.list.below.mono HB3.out.size))
          clear hA6 d1
          go_wp2
          go_ret
          exact ⟨rfl, HFIN.out⟩
end
end Go.Proofs.YtblkehdpenfhjaaGreatDoor
/-
  ShardList: the contract, the row.
-/
set_option linter.unusedVariables false
set_option linter.unusedSimpArgs false
namespace Go.Proofs.YtblkehdpenfhjaaGreatDoor
open Go.RowKit Go.ChangeShapes Go.WideShapes Go.ChangeAt

namespace shardList
set_option maxRecDepth 100000 in
theorem contract (H : Type) (enc : TypeId × Value → H) (W : World) (base : Nat) (args : Array Value) (ds gs : List (DataW H)) (before : List MemPlace)
    (hval : ∀ (j : Nat) t v, Tryz.f5.params[j]? = some t → args[j]? = some v → Value.okWide Tryz.prog W .any base t v)
    (hW : DataW.Whole enc Tryz.prog Tryz.f5.params.toList Rows.shardListSpec.vars false W args.toList ds gs before) (hk : Rows.uptoSmall H (ds ++ gs) = true) (hL : laidMetH Tryz.prog laid2 W) :
    Calls Tryz.prog 5 args W fun e W' => ∃ v, e = .returned v ∧ Rows.shardListSpec.post enc Tryz.prog Tryz.f5 false true false false W args v W' := by
  have hW' := hW
  obtain ⟨p, q, hA0, hV, rfl, hfz, hnd⟩ := hW
  have hA : DataW.TrodAll enc Tryz.prog W 0 (fun _ => true) true Tryz.f5.params.toList args.toList ds p := hA0
  rw [Tryz.params5] at hA hval
  obtain ⟨v0, vs0, d0, ds0, p0, q0, hargs, rfl, rfl, h0, r0⟩ := trodAll_cons hA
  obtain ⟨v1, vs1, d1, ds1, p1, q1, rfl, rfl, rfl, h1, r1⟩ := trodAll_cons r0
  obtain ⟨v2, vs2, d2, ds2, p2, q2, rfl, rfl, rfl, h2, r2⟩ := trodAll_cons r1
  obtain ⟨v3, vs3, d3, ds3, p3, q3, rfl, rfl, rfl, h3, r3⟩ := trodAll_cons r2
  obtain ⟨v4, vs4, d4, ds4, p4, q4, rfl, rfl, rfl, h4, r4⟩ := trodAll_cons r3
  obtain ⟨rfl, rfl, rfl⟩ := trodAll_nil r4
  obtain rfl : args = #[v0, v1, v2, v3, v4] := by cases args; simp_all
  obtain ⟨rfl, rfl⟩ := trodVars_none hV
  clear hA0 hargs
  obtain ⟨n0, rfl, rfl, rfl, w0⟩ := open_int Tryz.underlying3 (hval 0 3 v0 rfl rfl) h0
  obtain ⟨n1, rfl, rfl, rfl, w1⟩ := open_int Tryz.underlying3 (hval 1 3 v1 rfl rfl) h1
  obtain ⟨b4, rfl, rfl, rfl⟩ := open_bool Tryz.underlying4 (hval 4 4 v4 rfl rfl) h4
  have hsl2 := okWide_slice Tryz.underlying22 (hval 2 22 v2 rfl rfl)
  have hsl3 := okWide_slice Tryz.underlying23 (hval 3 23 v3 rfl rfl)
  simp only [List.append_nil, List.nil_append] at hW'
  have hb : Rows.uptoBulkAll ([DataW.lit (.int .i64 n0), DataW.lit (.int .i64 n1), d2, d3, DataW.lit (.bool b4)] ++ []) ≤ 1048576 := of_decide_eq_true hk
  simp only [List.append_nil, List.cons_append, Rows.uptoBulkAll, Rows.uptoBulk] at hb
  have h2k := h2
  have h3k := h3
  obtain ⟨fuel2, hf2⟩ := h2
  obtain ⟨fuel3, hf3⟩ := h3
  have hlt2 : ∀ x ∈ p2, x.block < W.heap.size := fun x hx => by simpa using hW'.lt x (by simp [hx])
  have hlt3 : ∀ x ∈ p3, x.block < W.heap.size := fun x hx => by simpa using hW'.lt x (by simp [hx])
  obtain ⟨g, hg1, hg2, hg3⟩ := rows_open (x := (d2, p2)) hf2 hsl2 hlt2
  obtain ⟨ads, ha1, ha2⟩ := addrs_open (x := (d3, p3)) hf3 hsl3 hlt3
  simp only at hg2 hg3 ha2
  refine (list_calls n0 n1 g (by omega) (fun r hr => by have := hg3 r hr; omega) hg1 ads (by omega) ha1 (glob_of_laid hL) b4).mono fun e W' ⟨he, bel⟩ => ?_
  subst he
  exact ⟨_, rfl, _, _, _, _, _, [], hW', trodAll_mk1 (shut_bool Tryz.underlying4 _), (trodAll_cons_mk (shut_int Tryz.underlying3 w0) (trodAll_cons_mk (shut_int Tryz.underlying3 w1) (trodAll_cons_mk (Below.trod laid_out (by kernel_rfl) (of_decide_eq_true (by kernel_rfl)) h2k bel hlt2) (trodAll_cons_mk (Below.trod laid_out (by kernel_rfl) (of_decide_eq_true (by kernel_rfl)) h3k bel hlt3) (trodAll_cons_mk (shut_bool Tryz.underlying4 b4) trodAll_mk0))))), rfl, bel.frame _, fun h => by cases h⟩
theorem laid_met (os : Os) : laidMet Tryz.prog laid2 ((laidWorld os).forCall (fun _ _ => 0) ⟨#[], #[.int .i64 0, .int .i64 0, .slice none 0 0, .slice none 0 0, .bool false], []⟩).memory :=
  laidMet_of_run' 8 (by kernel_rfl) (by kernel_rfl)
theorem reads (os : Os) {H : Type} (enc : TypeId × Value → H) : ∃ places, DataW.whole enc Tryz.prog ((laidWorld os).forCall (fun _ _ => 0) ⟨#[], #[.int .i64 0, .int .i64 0, .slice none 0 0, .slice none 0 0, .bool false], []⟩).memory Tryz.f5.params.toList Rows.shardListSpec.vars false #[Value.int .i64 0, .int .i64 0, .slice none 0 0, .slice none 0 0, .bool false].toList 8 = some ([.lit (.int .i64 0), .lit (.int .i64 0), .nil, .nil, .lit (.bool false)], [], places) :=
  ⟨[], by kernel_rfl⟩
set_option maxRecDepth 100000 in
theorem liftedUpto (os : Os) (started : os.Started) (H : Type) (enc : TypeId × Value → H) (F : Stop.Interp) :
    ReturnsInHanded {} Tryz.checked os 5 .any ((Rows.OpenSpec.upto Rows.shardListSpec).preRow enc Tryz.prog Tryz.f5 Rows.shardListUptoRow.domain false Rows.shardListUptoRow.laid) (((Rows.OpenSpec.upto Rows.shardListSpec).at F).post enc Tryz.prog Tryz.f5 false true false false) := by
  obtain ⟨places, hx⟩ := reads os enc
  refine returnsInHanded_of_row (C := Tryz.checked) (s := Rows.OpenSpec.upto Rows.shardListSpec) own_knob started (by kernel_rfl) Tryz.func5
    (witness_row_at (enc := enc) (C := Tryz.checked) false (laidWorld os) #[.int .i64 0, .int .i64 0, .slice none 0 0, .slice none 0 0, .bool false] rfl (by kernel_rfl) (by kernel_rfl) (by kernel_rfl)
      (OpenSpec.preRow_of_cond 8 hx (by kernel_rfl) (fun k hk => by cases hk; kernel_rfl) (by kernel_rfl) (laid_met os))) ?_
  intro W base args ds gs before hval hW c1 c2 c3 hL _ _
  exact contract H enc W base args ds gs before hval hW (by first | exact c2 _ rfl | exact c3 _ rfl) hL
theorem plain (f : FuncId) (fn : Func) (hf : Tryz.pinned.checked.prog.funcNamed "annals/annalslaw17.ShardList" = some f) (hfn : Tryz.pinned.checked.prog.funcs[f]? = some fn) :
    true = Tryz.pinned.checked.prog.looks [] ∧ ∀ (j : Nat) t, fn.params[j]? = some t → Tryz.pinned.checked.prog.wantsStandIn t = false := by
  obtain rfl : f = 5 := Option.some.inj ((show Tryz.prog.funcNamed "annals/annalslaw17.ShardList" = some 5 by kernel_rfl).symm.trans hf) |>.symm
  obtain rfl : fn = Tryz.f5 := (Option.some.inj (Tryz.func5.symm.trans hfn)).symm
  refine ⟨by kernel_rfl, fun j t ht => ?_⟩
  rw [Tryz.params5] at ht
  have hmem := Array.mem_of_getElem? ht
  have hall : (#[3, 3, 22, 23, 4] : Array TypeId).all (fun t => !Tryz.prog.wantsStandIn t) = true := by kernel_rfl
  have := Array.all_eq_true_iff_forall_mem.1 hall t hmem
  show Tryz.prog.wantsStandIn t = false
  simpa using this
end shardList
end Go.Proofs.YtblkehdpenfhjaaGreatDoor
