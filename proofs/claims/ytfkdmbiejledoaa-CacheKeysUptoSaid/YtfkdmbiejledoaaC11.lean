/-
  the law CacheKeys, walked.
-/
import Derived.Test.YtfkdmbiejledoaaP0
set_option linter.unusedVariables false
set_option linter.unusedSimpArgs false
namespace Go.Proofs.Ytfkdmbiejledoaa
open Go.RowKit


set_option maxHeartbeats 4000000 in
set_option maxRecDepth 100000 in
theorem keysLaw_calls (most drop : Int) (ks : List Int) (v : Value) (w : World) (hv : SlIn w v (ks.map (Value.int .i64)) fun _ => True) (hl : ks.length ≤ 2000000) (hks : ∀ z ∈ ks, InI64 z) (hmost : InI64 most) (hdrop : InI64 drop) :
    Calls Try.prog 5 #[.int .i64 most, v, .int .i64 drop] w fun r w' => r = .returned (.bool true) ∧ Below w.heap.size w w' := by
  have HKS := Lib.hid hks
  have HD := Lib.hid hdrop
  have HMO := Lib.hid hmost
  obtain ⟨A, cap, rfl, hcap, hvc⟩ := hv.ints
  have HVC := Lib.hid hvc
  clear hv hks hdrop hmost hvc
  go_enter Try.func5, Try.ntmps5
  go_wp2_with fail
  refine (pick_calls most 12 (by omega) (by omega) HMO.out w).mono ?_
  rintro r w1 ⟨rfl, rfl⟩
  have hp := pickZ_in most 12 (by omega)
  obtain ⟨p, hpe⟩ : ∃ p, p = pickZ most 12 := ⟨_, rfl⟩
  rw [← hpe] at hp ⊢
  obtain ⟨hp1, hp2⟩ := hp
  clear hpe
  go_wp2_with fail
  refine (newO (2 + p) (by omega) (by omega) w).mono ?_
  rintro r w1 ⟨c, fp1, rfl, ho, hf, hb⟩
  have HO1 := Lib.hid ho
  have HF1 := Lib.hid hf
  have HB1 := Lib.hid hb
  clear ho hf hb
  go_wp2_with fail
  refine (putO ⟨#[111, 110, 101]⟩ ⟨#[49]⟩ HO1.out (by unfold maxLen; decide) (fun x hx => by cases hx) (by omega) (by show (0 : Int) ≤ _; omega) (by show (0 : Nat) ≤ _; omega) (by omega)).mono ?_
  rintro r w2 ⟨rfl, fp2, ho, ht, hf⟩
  obtain ⟨s1, s2, s3⟩ := stepB HB1.out HB1.out.size HF1.out ht hf
  have HO2 := Lib.hid ho
  have HB2 := Lib.hid s1
  have HF2 := Lib.hid s2
  have HG2 : Hid (Good (putE [] (2 + p) ⟨#[111, 110, 101]⟩ ⟨#[49]⟩) (2 + p)) := Lib.hid (Good.put (Good.nil (by omega)) (by simp) (by omega) (by decide))
  have HL2 : Hid ((putE [] (2 + p) ⟨#[111, 110, 101]⟩ ⟨#[49]⟩).length = 1) := Lib.hid ((putE_len (es := []) (by simp) (by omega) (by show (0 : Int) ≤ _; omega)).2.2.2.2 rfl (by show (0 : Int) < _; omega))
  clear ho ht hf s1 s2 s3
  have hE1 : putE [] (2 + p) ⟨#[111, 110, 101]⟩ ⟨#[49]⟩ = [(⟨#[111, 110, 101]⟩, ⟨#[49]⟩)] := by
    unfold putE
    rw [if_neg (by decide), if_neg (by omega), if_pos (by show (0 : Int) < _; omega)]
  rw [hE1] at HO2 HG2
  clear hE1 HL2
  go_wp2_with fail
  refine (putO ⟨#[116, 119, 111]⟩ ⟨#[50]⟩ HO2.out (by unfold maxLen; decide) HG2.out.ksm (by omega) HG2.out.len (by show (1 : Nat) ≤ _; omega) (by have := one_le (putOut [] (2 + p) ⟨#[111, 110, 101]⟩).2; omega)).mono ?_
  rintro r w3 ⟨rfl, fp3, ho, ht, hf⟩
  obtain ⟨s1, s2, s3⟩ := stepB HB2.out HB2.out.size HF2.out ht hf
  have HG3 := Lib.hid (HG2.out.put HO2.out.nodup (by omega) (k := ⟨#[116, 119, 111]⟩) (v := ⟨#[50]⟩) (by decide))
  have HL3 : Hid (2 ≤ (putE [(⟨#[111, 110, 101]⟩, ⟨#[49]⟩)] (2 + p) ⟨#[116, 119, 111]⟩ ⟨#[50]⟩).length) := Lib.hid (Nat.le_of_eq ((putE_len HO2.out.nodup (by omega) HG2.out.len).2.2.2.2 (by decide) (by show (1 : Int) < _; omega)).symm)
  have HGN3 : Hid (0 ≤ 0 + one (putOut [] (2 + p) ⟨#[111, 110, 101]⟩).2 + one (putOut [(⟨#[111, 110, 101]⟩, ⟨#[49]⟩)] (2 + p) ⟨#[116, 119, 111]⟩).2 ∧ 0 + one (putOut [] (2 + p) ⟨#[111, 110, 101]⟩).2 + one (putOut [(⟨#[111, 110, 101]⟩, ⟨#[49]⟩)] (2 + p) ⟨#[116, 119, 111]⟩).2 ≤ 2) := Lib.hid (by
    have := one_le (putOut [] (2 + p) ⟨#[111, 110, 101]⟩).2; have := one_le (putOut [(⟨#[111, 110, 101]⟩, ⟨#[49]⟩)] (2 + p) ⟨#[116, 119, 111]⟩).2; omega)
  obtain ⟨es, hes⟩ : ∃ es, es = putE [(⟨#[111, 110, 101]⟩, ⟨#[49]⟩)] (2 + p) ⟨#[116, 119, 111]⟩ ⟨#[50]⟩ := ⟨_, rfl⟩
  obtain ⟨gn, hgn⟩ : ∃ gn, gn = 0 + one (putOut [] (2 + p) ⟨#[111, 110, 101]⟩).2 + one (putOut [(⟨#[111, 110, 101]⟩, ⟨#[49]⟩)] (2 + p) ⟨#[116, 119, 111]⟩).2 := ⟨_, rfl⟩
  rw [← hgn] at HGN3 ho
  rw [← hes] at HG3 HL3 ho
  have HO3 := Lib.hid ho
  have HB3 := Lib.hid s1
  have HF3 := Lib.hid s2
  have HS3 := Lib.hid s3
  clear ho ht hf s1 s2 s3 hes hgn
  go_upto_block 0 with (fail)
  go_cut [9] (fun _ wc => ∃ (es' : Es) (gn' : Int) (fp' : Nat → Prop), Hid (CObj IS wc c (2 + p) es' 0 0 gn' fp' ∧ Good es' (2 + p) ∧ 2 ≤ es'.length ∧ 0 ≤ gn' ∧ Below w.heap.size w wc ∧ (∀ b, fp' b → w.heap.size ≤ b)))
  case first =>
    go_wp2
    go_loopw [9] (fun iv wr => ∃ (i : Nat) (es' : Es) (gn' : Int) (fp' : Nat → Prop), iv = .int .i64 i ∧ i ≤ ks.length ∧ Hid (CObj IS wr c (2 + p) es' 0 0 gn' fp') ∧ Hid (Good es' (2 + p)) ∧ Hid (2 ≤ es'.length) ∧ Hid (0 ≤ gn' ∧ gn' ≤ 2 + i) ∧ Hid (Below w.heap.size w wr) ∧ Hid (∀ b, fp' b → w.heap.size ≤ b)) (fun iv _ => ks.length - (intOf iv).toNat)
    case atStart => exact ⟨0, es, gn, fp3, rfl, Nat.zero_le _, HO3, HG3, HL3, Lib.hid (by have := HGN3.out; omega), HB3, HF3⟩
    case round =>
      clear HO3 HG3 HL3 HGN3 HB3 HF3
      obtain ⟨i, es, gn, fp3, rfl, hi, HO3, HG3, HL3, HGN3, HB3, HF3⟩ := hrel
      by_cases hlt : i < ks.length
      · by_cases h300 : i < 300
        · obtain ⟨b, o, rfl, hb, hC1⟩ := HVC.out (by omega)
          have c0 : wr.cell? ⟨b, o + i, none⟩ = some (.int .i64 ks[i]) := by rw [HB3.out.cell hb]; exact hC1 i hlt
          clear hC1
          have HZ := Lib.hid (HKS.out _ (List.getElem_mem hlt))
          obtain ⟨z, hz⟩ : ∃ z, z = ks[i] := ⟨_, rfl⟩
          rw [← hz] at c0 HZ
          clear hz
          go_wp2_with fail
          refine (digits_calls z HZ.out wr).mono ?_
          rintro r w4 ⟨rfl, rfl⟩
          go_wp2_with fail
          refine (putO (dkey z) ⟨#[118]⟩ HO3.out (by have := dkey_size z; unfold maxLen; omega) HG3.out.ksm (by omega) HG3.out.len (by have := HG3.out.len; omega) (by have := HGN3.out; omega)).mono ?_
          rintro r w4 ⟨rfl, fp4, ho, ht, hf⟩
          obtain ⟨s1, s2, s3⟩ := stepB HB3.out HB3.out.size HF3.out ht hf
          have hlen := putE_len (k := dkey z) (v := ⟨#[118]⟩) HO3.out.nodup (by omega) HG3.out.len
          have HL4 : Hid (2 ≤ (putE es (2 + p) (dkey z) ⟨#[118]⟩).length) := Lib.hid (by have := HL3.out; have := hlen.2.1; omega)
          have HG4 := Lib.hid (HG3.out.put HO3.out.nodup (by omega) (k := dkey z) (v := ⟨#[118]⟩) (by have := dkey_size z; omega))
          have HGN4 : Hid (0 ≤ gn + one (putOut es (2 + p) (dkey z)).2 ∧ gn + one (putOut es (2 + p) (dkey z)).2 ≤ 2 + ((i + 1 : Nat) : Int)) := Lib.hid (by have := one_le (putOut es (2 + p) (dkey z)).2; have := HGN3.out; omega)
          have HO4 := Lib.hid ho
          have HB4 := Lib.hid s1
          have HF4 := Lib.hid s2
          clear ho ht hf s1 s2 s3 hlen
          go_wp2
          exact ⟨⟨i + 1, _, _, _, by go_num, by omega, HO4, HG4, HL4, HGN4, HB4, HF4⟩, by simp [intOf]; omega⟩
        · have k1 : decide ((i : Int) < 300) = false := decide_eq_false (by omega)
          go_wp2
          go_meet
          case rel => exact ⟨es, gn, fp3, Lib.hid ⟨HO3.out, HG3.out, HL3.out, HGN3.out.1, HB3.out, HF3.out⟩⟩
      · by_cases h300 : i < 300
        · have k1 : decide ((i : Int) < 300) = true := decide_eq_true (by omega)
          go_wp2
          go_meet
          case rel => exact ⟨es, gn, fp3, Lib.hid ⟨HO3.out, HG3.out, HL3.out, HGN3.out.1, HB3.out, HF3.out⟩⟩
        · have k1 : decide ((i : Int) < 300) = false := decide_eq_false (by omega)
          go_wp2
          go_meet
          case rel => exact ⟨es, gn, fp3, Lib.hid ⟨HO3.out, HG3.out, HL3.out, HGN3.out.1, HB3.out, HF3.out⟩⟩
  case rest =>
  clear HO3 HG3 HL3 HGN3 HB3 HF3
  obtain ⟨es, gn, fp, HALL⟩ := hcut
  obtain ⟨ho, hg, hl2, hgn, hb, hf⟩ := HALL.out
  have hlen13 : es.length ≤ 13 := by have := hg.len; omega
  have HO := Lib.hid ho
  have HG := Lib.hid hg
  have HGN := Lib.hid hgn
  have HB := Lib.hid hb
  have HF := Lib.hid hf
  clear HALL ho hg hgn hb hf
  obtain ⟨KS, hKS⟩ : ∃ KS, KS = es.map (·.1) := ⟨_, rfl⟩
  have HKE := Lib.hid hKS
  have hKL : KS.length = es.length := by rw [hKS, List.length_map]
  have HKL0 := Lib.hid hKL
  clear hKS hKL
  go_wp2_with fail
  refine (keysO HO.out (by omega)).mono ?_
  rintro r w4 ⟨va, rfl, hrow, hb⟩
  rw [← HKE.out] at hrow
  obtain ⟨ga, capa, rfl, hga1, hga2⟩ := World.ownsRow.form hrow (by omega)
  have HRA := Lib.hid hrow
  have HO4 := Lib.hid (HO.out.keep (w' := w4) fun b hb' => hb.block b (HO.out.lt hb'))
  have HB4 := Lib.hid (HB.out.trans (hb.mono HB.out.size))
  have HS4 : Hid (wc.heap.size ≤ ga ∧ ga < w4.heap.size ∧ wc.heap.size ≤ w4.heap.size ∧ w.heap.size ≤ wc.heap.size) := Lib.hid ⟨hga1, hga2, hb.size, HB.out.size⟩
  have HFW : Hid (∀ b, fp b → b < wc.heap.size) := Lib.hid fun b hb' => HO.out.lt hb'
  clear hrow hb hga1 hga2
  go_wp2_with fail
  refine (keysO HO4.out (by omega)).mono ?_
  rintro r w5 ⟨vb, rfl, hrow, hb⟩
  rw [← HKE.out] at hrow
  have HIA := Lib.hid ((SlIn.of_own HRA.out).below hb)
  have HRA5 := Lib.hid (ownsRow_at (w' := w5) HRA.out (hb.block ga HS4.out.2.1))
  have HIB := Lib.hid (SlIn.of_own hrow)
  have HO5 := Lib.hid (HO4.out.keep (w' := w5) fun b hb' => hb.block b (HO4.out.lt hb'))
  have HB5 := Lib.hid (HB4.out.trans (hb.mono HB4.out.size))
  have HS5 : Hid (w4.heap.size ≤ w5.heap.size) := Lib.hid hb.size
  have HNW := Lib.hid (show ∀ (j : Nat) u, (KS.map Value.string)[j]? = some u → w5.cell? ((⟨ga, 0, none⟩ : Addr).add j) = some u from World.ownsRow.cells (g := ga) HRA5.out rfl)
  have HKL : Hid ((KS.map Value.string).length = es.length) := Lib.hid (by rw [List.length_map]; exact HKL0.out)
  clear hrow hb
  obtain ⟨i0, hi0, hz0, hz1, hz2⟩ := info_parts info9
  go_wp2_with (at_builtin; refine wpList_append_lies _ rfl (.const (.slice none 0 0)) (.tmp 58) 30 rfl w5.heap.size 9 i0 (.string ⟨#[]⟩) 1 16 Try.underlying30 hi0 hz0 hz1 hz2 rfl (by decide) _ _ _ rfl (World.ownsRow_nil _ _ _ _) ⟨ga, 0, none⟩ es.length capa (KS.map Value.string) rfl (by rw [HKL.out]; omega) HNW.out (by intro u hu; obtain ⟨x, _, rfl⟩ := List.mem_map.1 hu; rfl) (by omega) (by unfold maxLen; omega) (by omega) (by omega) _ rfl ?_)
  intro gw capw w6 hownw hgrow hat hltg
  have hbw : Below w5.heap.size w5 w6 := (Below.refl _ _).grown hgrow (Nat.le_refl _) (fun k hk => by cases hk)
  have HIW := Lib.hid (SlIn.of_own hownw)
  have HIA6 := Lib.hid (HIA.out.below hbw)
  have HIB6 := Lib.hid (HIB.out.below hbw)
  have HRA6 := Lib.hid (ownsRow_at (w' := w6) HRA5.out (hbw.block ga (by have := HS4.out; have := HS5.out; omega)))
  have HO6 := Lib.hid (HO5.out.keep (w' := w6) fun b hb' => hbw.block b (HO5.out.lt hb'))
  have HB6 := Lib.hid (HB5.out.trans (hbw.mono HB5.out.size))
  have HS6 : Hid (w5.heap.size ≤ w6.heap.size) := Lib.hid hbw.size
  clear hownw hgrow hat hltg hbw
  go_wp2_with fail
  refine (same_calls KS KS _ _ w6 _ _ HIA6.out HIB6.out (by have := HKL0.out; omega) (by have := HKL0.out; omega)).mono ?_
  rintro r w7 ⟨rfl, hb⟩
  rw [show sameB KS KS = true from decide_eq_true rfl]
  have HIB7 := Lib.hid (HIB6.out.below hb)
  have HIW7 := Lib.hid (HIW.out.below hb)
  have HRA7 := Lib.hid (ownsRow_at (w' := w7) HRA6.out (hb.block ga (by have := HS4.out; have := HS5.out; have := HS6.out; omega)))
  have HO7 := Lib.hid (HO6.out.keep (w' := w7) fun b hb' => hb.block b (HO6.out.lt hb'))
  have HB7 := Lib.hid (HB6.out.trans (hb.mono HB6.out.size))
  have HS7 : Hid (w6.heap.size ≤ w7.heap.size) := Lib.hid hb.size
  have hn2 : (es.length : Int) ≤ 2 + p := HG.out.len
  have k1 : decide ((es.length : Int) < 2) = false := decide_eq_false (by omega)
  have k2 : decide (2 + p < (es.length : Int)) = false := decide_eq_false (by omega)
  have hga7 : ga < w7.heap.size := by have := HS4.out; have := HS5.out; have := HS6.out; have := HS7.out; omega
  clear hb HNW
  go_wp2
  go_loopw [13] (fun iv wr => ∃ (i : Nat) (xs : List Value), iv = .int .i64 i ∧ i ≤ es.length ∧ Hid (wr.ownsRow ga 9 1 (.slice (some ⟨ga, 0, none⟩) es.length capa) es.length xs) ∧ Hid (Turn (fun b => b = ga) w7 wr)) (fun iv _ => es.length - (intOf iv).toNat)
  case atStart => exact ⟨0, _, rfl, Nat.zero_le _, HRA7, Lib.hid (Turn.refl _ _)⟩
  case round =>
    obtain ⟨i, xs, rfl, hi', HR, HT⟩ := hrel
    by_cases hlt : i < es.length
    · obtain ⟨⟨u, hu⟩, hfz⟩ := ownsRow_cell HR.out hlt
      have HR2 := Lib.hid (ownsRow_set HR.out hlt (v := .string ⟨#[109, 97, 114, 107]⟩))
      have HT2 := Lib.hid (HT.out.setCell (p := ⟨ga, i, none⟩) (.inl rfl) (.string ⟨#[109, 97, 114, 107]⟩))
      go_wp2
      exact ⟨⟨i + 1, _, by go_num, by omega, HR2, HT2⟩, by simp [intOf]; omega⟩
    · obtain rfl : i = es.length := by omega
      go_wp2_with (at_builtin; refine wpList_append_lies _ rfl (.tmp 84) (.tmp 85) 30 rfl ga 9 i0 (.string ⟨#[]⟩) 1 16 Try.underlying30 hi0 hz0 hz1 hz2 rfl (by decide) _ _ _ rfl (HR.out.alloc _) ⟨wr.heap.size, 0, none⟩ 1 1 [.string ⟨#[109, 97, 114, 107]⟩] rfl rfl (World.news_of_block (MapKept.heap_alloc _ _).1) (by intro u hu; simp at hu; subst hu; rfl) (by decide) (by unfold maxLen; omega) (by omega) (by have := HT.out.size; simp; omega) _ rfl ?_)
      intro gm capm w8 hownm hgrow hat hltg
      have HM8 := Lib.hid hownm
      have HT8 := Lib.hid (((HT.out.alloc _).grown hgrow (fun k hk => by simp [Value.ownBlock] at hk; exact .inl hk.symm)))
      have HG8 : Hid (gm = ga ∨ w7.heap.size ≤ gm) := Lib.hid (by
        rcases hat with h | h
        · exact .inl (by first | exact h.symm | (simp [Value.ownBlock] at h; exact h.symm))
        · have h1 := HT.out.size; have h2 : gm = wr.heap.size + 1 := by first | exact h | (simp at h; exact h)
          exact .inr (by omega))
      clear hownm hgrow hat hltg HR HT
      go_wp2
      go_loopw [14, 15] (fun mv jv wr => ∃ (j g cap : Nat) (xs : List Value), jv = .int .i64 j ∧ j ≤ 64 ∧ mv = .slice (some ⟨g, 0, none⟩) (es.length + 1 + j) cap ∧ Hid (wr.ownsRow ga 9 1 mv (es.length + 1 + j) xs) ∧ Hid (g = ga ∨ w7.heap.size ≤ g) ∧ Hid (Turn (fun b => b = ga) w7 wr)) (fun _ jv _ => 64 - (intOf jv).toNat)
      case atStart => exact ⟨0, gm, capm, _, rfl, Nat.zero_le _, rfl, HM8, HG8, HT8⟩
      case round =>
        clear HM8 HG8 HT8
        obtain ⟨j, g, cap, ys, rfl, hj, rfl, HM, HGG, HT⟩ := hrel
        by_cases hlt : j < 64
        · have k3 : decide ((j : Int) < 64) = true := decide_eq_true (by omega)
          go_wp2_with (at_builtin; refine wpList_append_lies _ rfl (.tmp 91) (.tmp 92) 30 rfl ga 9 i0 (.string ⟨#[]⟩) 1 16 Try.underlying30 hi0 hz0 hz1 hz2 rfl (by decide) _ _ _ rfl (HM.out.alloc _) ⟨wr.heap.size, 0, none⟩ 1 1 [.string ⟨#[109, 97, 114, 107]⟩] rfl rfl (World.news_of_block (MapKept.heap_alloc _ _).1) (by intro u hu; simp at hu; subst hu; rfl) (by decide) (by unfold maxLen; omega) (by omega) (by have := HT.out.size; simp; omega) _ rfl ?_)
          intro gm capm w9 hownm hgrow hat hltg
          have HM9 := Lib.hid hownm
          have HT9 := Lib.hid (((HT.out.alloc _).grown hgrow (fun k hk => by
            have hk : g = k := by simpa [Value.ownBlock] using hk
            have := HGG.out
            subst hk; exact this)))
          have HG9 : Hid (gm = ga ∨ w7.heap.size ≤ gm) := Lib.hid (by
            rcases hat with h | h
            · have h : gm = g := by first | exact h.symm | (simp [Value.ownBlock] at h; exact h.symm)
              rw [h]; exact HGG.out
            · have h1 := HT.out.size; have h2 : gm = wr.heap.size + 1 := by first | exact h | (simp at h; exact h)
              exact .inr (by omega))
          clear hownm hgrow hat hltg
          go_wp2
          exact ⟨⟨j + 1, gm, capm, _, by go_num, by omega, rfl, HM9, HG9, HT9⟩, by simp [intOf]; omega⟩
        · obtain rfl : j = 64 := by omega
          have HOr := Lib.hid (HO7.out.keep (w' := wr) fun b hb' => HT.out.block b (HO7.out.lt hb') (by have := HFW.out b hb'; have := HS4.out; omega))
          have HBr := Lib.hid (HB7.out.trans (HT.out.below (B := w.heap.size) (fun k hk => by have := HS4.out; omega) HB7.out.size))
          have HIBr := Lib.hid (HIB7.out.keep (w' := wr) HT.out.size (fun b hb' hb2 => HT.out.block b hb' (by have := HS4.out; omega)))
          have HIWr := Lib.hid (HIW7.out.keep (w' := wr) HT.out.size (fun b hb' hb2 => HT.out.block b hb' (by have := HS4.out; have := HS5.out; omega)))
          go_wp2_with fail
          refine (keysO HOr.out (by omega)).mono ?_
          rintro r wd ⟨vd, rfl, hrow, hb⟩
          rw [← HKE.out] at hrow
          have HID := Lib.hid (SlIn.of_own hrow)
          have HOd := Lib.hid (HOr.out.keep (w' := wd) fun b hb' => hb.block b (HOr.out.lt hb'))
          have HBd := Lib.hid (HBr.out.trans (hb.mono HBr.out.size))
          have HIBd := Lib.hid (HIBr.out.below hb)
          have HIWd := Lib.hid (HIWr.out.below hb)
          clear hrow hb
          go_wp2_with fail
          refine (same_calls KS KS _ _ wd _ _ HIBd.out HIWd.out (by have := HKL0.out; omega) (by have := HKL0.out; omega)).mono ?_
          rintro r we ⟨rfl, hb⟩
          rw [show sameB KS KS = true from decide_eq_true rfl]
          have HIDe := Lib.hid (HID.out.below hb)
          have HIWe := Lib.hid (HIWd.out.below hb)
          have HOe := Lib.hid (HOd.out.keep (w' := we) fun b hb' => hb.block b (HOd.out.lt hb'))
          have HBe := Lib.hid (HBd.out.trans (hb.mono HBd.out.size))
          clear hb
          go_wp2_with fail
          refine (same_calls KS KS _ _ we _ _ HIDe.out HIWe.out (by have := HKL0.out; omega) (by have := HKL0.out; omega)).mono ?_
          rintro r wf ⟨rfl, hb⟩
          rw [show sameB KS KS = true from decide_eq_true rfl]
          have HIWf := Lib.hid (HIWe.out.below hb)
          have HOf := Lib.hid (HOe.out.keep (w' := wf) fun b hb' => hb.block b (HOe.out.lt hb'))
          have HBf := Lib.hid (HBe.out.trans (hb.mono HBe.out.size))
          clear hb
          go_wp2_with fail
          refine (pick_calls drop es.length (by omega) (by omega) HD.out wf).mono ?_
          rintro r wg ⟨rfl, rfl⟩
          have hq := pickZ_in drop es.length (by omega)
          obtain ⟨q, hqe⟩ : ∃ q : Nat, (q : Int) = pickZ drop es.length := ⟨(pickZ drop es.length).toNat, by omega⟩
          rw [← hqe] at hq ⊢
          have hq2 : q < es.length := by omega
          have hqk : q < KS.length := by have := HKL0.out; omega
          clear hq hqe
          have hcell : wf.cell? ⟨gw, q, none⟩ = some (.string KS[q]) := by
            obtain ⟨A, cp, e1, e2, e3⟩ := HIWf.out.strs
            obtain ⟨b, o, e4, e5, e6⟩ := e3 (by omega)
            injection e1 with e1 e7 e8
            rw [e4] at e1
            injection e1 with e1
            injection e1 with e1 e9
            subst e1 e9
            have := e6 q hqk
            rwa [Nat.zero_add] at this
          have HMEM := Lib.hid (show KS[q] ∈ es.map (·.1) by rw [← HKE.out]; exact List.getElem_mem hqk)
          obtain ⟨gk, hgk⟩ : ∃ gk, gk = KS[q] := ⟨_, rfl⟩
          rw [← hgk] at hcell HMEM
          clear hgk
          have HKS1 := Lib.hid (show gk.size ≤ maxLen by
            obtain ⟨x, hx, hx2⟩ := List.mem_map.1 HMEM.out
            rw [← hx2]; exact HG.out.ksm x hx)
          have HFI := Lib.hid (find_iff.2 HMEM.out)
          have HRL := Lib.hid (rem_len HO.out.nodup HMEM.out)
          have HRK := Lib.hid (show (rem es gk).map (·.1) = filt KS gk by rw [HKE.out]; exact rem_keys es gk)
          have HFR := Lib.hid (find_rem es gk)
          go_wp2_with fail
          refine (dropO gk HOf.out HKS1.out).mono ?_
          rintro r wh ⟨rfl, fp2, ho, ht, hf⟩
          rw [HFI.out]
          obtain ⟨s1, s2, s3⟩ := stepB HBf.out HBf.out.size (fun b hb' => by have := HFW.out b hb'; exact HF.out b hb') ht hf
          have HIWh := Lib.hid ((HIWf.out.mono (B' := fun b => ¬ fp b) (fun b _ h2 h3 => by have := HFW.out b h3; have := HS4.out; have := HS5.out; omega)).turn ht hf)
          have HOh := Lib.hid ho
          have HBh := Lib.hid s1
          have HFh := Lib.hid s2
          clear ho ht hf s1 s2 s3 hcell
          go_wp2_with fail
          refine (dropO gk HOh.out HKS1.out).mono ?_
          rintro r wi ⟨rfl, fp3, ho, ht, hf⟩
          rw [HFR.out]
          rw [rem_notin (findV_none HFR.out)] at ho
          obtain ⟨s1, s2, s3⟩ := stepB HBh.out HBh.out.size HFh.out ht hf
          have HIWi := Lib.hid (HIWh.out.turn ht hf)
          have HOi := Lib.hid ho
          have HBi := Lib.hid s1
          have HFi := Lib.hid s2
          clear ho ht hf s1 s2 s3
          go_wp2_with fail
          refine (peekO gk HOi.out HKS1.out).mono ?_
          rintro r wj ⟨rfl, hb⟩
          rw [HFR.out]
          have HIWj := Lib.hid (HIWi.out.below hb)
          have HOj := Lib.hid (HOi.out.keep (w' := wj) fun b hb' => hb.block b (HOi.out.lt hb'))
          have HBj := Lib.hid (HBi.out.trans (hb.mono HBi.out.size))
          clear hb
          go_wp2_with fail
          refine (keysO HOj.out (by have := HRL.out; omega)).mono ?_
          rintro r wk ⟨vl, rfl, hrow, hb⟩
          rw [HRK.out] at hrow
          have HIL := Lib.hid (SlIn.of_own hrow)
          have HIWk := Lib.hid (HIWj.out.below hb)
          have HOk := Lib.hid (HOj.out.keep (w' := wk) fun b hb' => hb.block b (HOj.out.lt hb'))
          have HBk := Lib.hid (HBj.out.trans (hb.mono HBj.out.size))
          clear hrow hb
          go_wp2_with fail
          refine (without_calls KS gk _ wk _ HIWk.out (by have := HKL0.out; omega)).mono ?_
          rintro r wl ⟨vo, rfl, hrow, hb⟩
          have HIO := Lib.hid (SlIn.of_own hrow)
          have HILl := Lib.hid (HIL.out.below hb)
          have HOl := Lib.hid (HOk.out.keep (w' := wl) fun b hb' => hb.block b (HOk.out.lt hb'))
          have HBl := Lib.hid (HBk.out.trans (hb.mono HBk.out.size))
          have HFL := Lib.hid (show (filt KS gk).length ≤ 1000000 by rw [← HRK.out, List.length_map]; have := HRL.out; omega)
          clear hrow hb
          go_wp2_with fail
          refine (same_calls (filt KS gk) (filt KS gk) _ _ wl _ _ HILl.out HIO.out (by have := HFL.out; omega) (by have := HFL.out; omega)).mono ?_
          rintro r wm ⟨rfl, hb⟩
          rw [show sameB (filt KS gk) (filt KS gk) = true from decide_eq_true rfl]
          have HOm := Lib.hid (HOl.out.keep (w' := wm) fun b hb' => hb.block b (HOl.out.lt hb'))
          have HBm := Lib.hid (HBl.out.trans (hb.mono HBl.out.size))
          clear hb
          go_wp2_with fail
          refine (lenO HOm.out).mono ?_
          rintro r wn ⟨rfl, rfl⟩
          rw [show ((rem es gk).length : Int) = (es.length : Int) - 1 by have := HRL.out; omega]
          have he1 : 1 ≤ (es.length : Int) := by omega
          go_wp2_with fail
          refine (clearO HOm.out).mono ?_
          rintro r wn ⟨rfl, fp4, ho, ht, hf⟩
          obtain ⟨s1, s2, s3⟩ := stepB HBm.out HBm.out.size HFi.out ht hf
          have HOn := Lib.hid ho
          have HBn := Lib.hid s1
          clear ho ht hf s1 s2 s3
          go_wp2_with fail
          refine (countsO HOn.out).mono ?_
          rintro r wo ⟨rfl, hb⟩
          have HOo := Lib.hid (HOn.out.keep (w' := wo) fun b hb' => hb.block b (HOn.out.lt hb'))
          have HBo := Lib.hid (HBn.out.trans (hb.mono HBn.out.size))
          clear hb
          have hgn0 : 0 ≤ gn := HGN.out
          go_wp2_with fail
          refine (lenO HOo.out).mono ?_
          rintro r wp ⟨rfl, rfl⟩
          go_wp2_with fail
          refine (keysO HOo.out (by simp)).mono ?_
          rintro r wp ⟨vz, rfl, hrow, hb⟩
          have hz : vz = .slice none 0 0 ∨ ∃ g cap, vz = .slice (some ⟨g, 0, none⟩) 0 cap := by
            rcases hrow.2 with ⟨h, _⟩ | ⟨g, cap, cur, h, _⟩
            · exact .inl h
            · exact .inr ⟨g, cap, h⟩
          have HBp := Lib.hid (HBo.out.trans (hb.mono HBo.out.size))
          clear hrow hb
          rcases hz with rfl | ⟨g2, cap2, rfl⟩
          · go_wp2
            go_ret
            exact ⟨rfl, HBp.out⟩
          · go_wp2
            go_ret
            exact ⟨rfl, HBp.out⟩
end Go.Proofs.Ytfkdmbiejledoaa
