/-
  the law CacheLast, walked.
-/
import Derived.Test.YtfkdmbiejledoaaP0
import Derived.Test.YtfkdmbiejledoaaG6
set_option linter.unusedVariables false
set_option linter.unusedSimpArgs false
namespace Go.Proofs.Ytfkdmbiejledoaa
open Go.RowKit


theorem info35 : (Try.prog.info? 35).map (fun i => (i.zero, i.size, i.bytes)) = some (some (.agg #[.int .i64 0, .int .i64 0, .string ⟨#[]⟩]), 3, 32) := by kernel_rfl
def OpVOk (x : OpV) : Prop := InI64 x.kind ∧ InI64 x.k ∧ x.val.size ≤ 1000000000
def FIRST : OpV := ⟨3, 1, ⟨#[102, 105, 114, 115, 116]⟩⟩
theorem first_made (w : World) : (w.alloc (.cells #[.int .i64 3, .int .i64 1, .string ⟨#[102, 105, 114, 115, 116]⟩] 35)).ownsRow w.heap.size 35 3 (.slice (some ⟨w.heap.size, 0, none⟩) 1 1) 1 FIRST.cells :=
  ⟨rfl, .inr ⟨w.heap.size, 1, #[.int .i64 3, .int .i64 1, .string ⟨#[102, 105, 114, 115, 116]⟩], rfl, Nat.le_refl _, (MapKept.heap_alloc w _).1, Nat.le_refl _, by unfold maxLen; omega, rfl, rfl⟩⟩
set_option maxHeartbeats 4000000 in
set_option maxRecDepth 100000 in
theorem last_calls (most : Int) (os : List OpV) (v : Value) (w : World) (hv : OpsIn w v os fun _ => True) (hl : os.length ≤ 2000000) (hos : ∀ x ∈ os, OpVOk x) (hmost : InI64 most) :
    Calls Try.prog 4 #[.int .i64 most, v] w fun r w' => r = .returned (.bool true) ∧ Below w.heap.size w w' := by
  have HOS := Lib.hid hos
  have HMO := Lib.hid hmost
  have HV := Lib.hid hv
  clear hos hmost hv
  go_enter Try.func4, Try.ntmps4
  go_wp2_with fail
  refine (pick_calls most 12 (by omega) (by omega) HMO.out w).mono ?_
  rintro r w1 ⟨rfl, rfl⟩
  have hp := pickZ_in most 12 (by omega)
  obtain ⟨n, hpe⟩ : ∃ n : Nat, (n : Int) = pickZ most 12 := ⟨(pickZ most 12).toNat, by omega⟩
  rw [← hpe] at hp ⊢
  have hn12 : n < 12 := by omega
  clear hpe hp
  go_wp2_with fail
  refine (newO n (by omega) (by omega) w).mono ?_
  rintro r w1 ⟨c, fp1, rfl, ho, hf, hb⟩
  have HO1 := Lib.hid ho
  have HF1 := Lib.hid hf
  have HB1 := Lib.hid hb
  have HV1 := Lib.hid (HV.out.below hb)
  clear ho hf hb
  obtain ⟨i0, hi0, hz0, hz1, hz2⟩ := info_parts info35
  have HFM := Lib.hid (first_made w1)
  go_upto_region 6 with (fail)
  go_cut [8] (fun lv wc => Hid (OpsIn wc lv (FIRST :: os) (w1.heap.size ≤ ·)) ∧ Hid (Below w1.heap.size w1 wc))
  case first =>
    have HIB := Lib.hid ((Below.refl w1.heap.size w1).alloc (Nat.le_refl _) (.cells #[.int .i64 3, .int .i64 1, .string ⟨#[102, 105, 114, 115, 116]⟩] 35))
    by_cases h0 : os.length = 0
    · have HFO := Lib.hid (show FIRST :: os = [FIRST] by rw [List.eq_nil_of_length_eq_zero h0])
      obtain ⟨A, cap, hvv, _⟩ := HV1.out
      have HVE := Lib.hid (show v = .slice A 0 cap by rw [hvv, h0])
      clear hvv
      go_wp2_with (at_builtin; refine wpList_append_zero rfl (.tmp 26) (.tmp 27) 32 rfl w1.heap.size 35 i0 3 Try.underlying32 hi0 _ 1 _ rfl HFM.out A cap HVE.out ?_)
      go_wp2
      go_meet
      case rel => exact ⟨Lib.hid (by rw [HFO.out]; exact OpsIn.of_own HFM.out rfl), HIB⟩
    · obtain ⟨b, o, cap2, hvv, hnews⟩ := (HV1.out.below HIB.out).news (by omega)
      have HVE := Lib.hid hvv
      clear hvv
      have HNW := Lib.hid hnews
      have HFL := Lib.hid (flat_len os)
      clear hnews
      go_wp2_with (at_builtin; refine wpList_append_lies _ rfl (.tmp 26) (.tmp 27) 32 rfl w1.heap.size 35 i0 (.agg #[.int .i64 0, .int .i64 0, .string ⟨#[]⟩]) 3 32 Try.underlying32 hi0 hz0 hz1 hz2 rfl (by decide) _ 1 FIRST.cells rfl HFM.out ⟨b, o, none⟩ os.length cap2 (os.flatMap OpV.cells) HVE.out HFL.out HNW.out (by intro u hu; obtain ⟨x, _, hx⟩ := List.mem_flatMap.1 hu; simp [OpV.cells] at hx; rcases hx with rfl | rfl | rfl <;> rfl) (by omega) (by unfold maxLen; omega) (by omega) (by simp) _ rfl ?_)
      intro g capg w2 hown hgrow hat hltg
      have HI2 := Lib.hid (OpsIn.of_own (os := FIRST :: os) (w := w2) (by rw [List.flatMap_cons]; exact hown) (by simp; omega))
      have HB2 := Lib.hid (HIB.out.grown hgrow (by simp) (fun k hk => by simp [Value.ownBlock] at hk; omega))
      clear hown hgrow hat hltg
      go_wp2
      go_meet
      case rel => exact ⟨HI2, HB2⟩
  case rest =>
  obtain ⟨HL, HBc⟩ := hcut
  have HOS2 : Hid (∀ x ∈ FIRST :: os, OpVOk x) := Lib.hid fun x hx => by
    rcases List.mem_cons.1 hx with rfl | hx
    · exact ⟨⟨by decide, by decide⟩, ⟨by decide, by decide⟩, by decide⟩
    · exact HOS.out x hx
  obtain ⟨ls, hls⟩ : ∃ ls, ls = FIRST :: os := ⟨_, rfl⟩
  rw [← hls] at HL HOS2
  have hll : ls.length ≤ 2000001 ∧ 0 < ls.length := by rw [hls]; simp; omega
  clear hls HOS
  have HOC := Lib.hid (HO1.out.keep (w' := wc) fun b hb => HBc.out.block b (HO1.out.lt hb))
  have HLC := Lib.hid (HL.out.mono (B' := fun b => ¬ fp1 b) fun b _ hb h => by have := HO1.out.lt h; omega)
  have HBW := Lib.hid (HB1.out.trans (HBc.out.mono HB1.out.size))
  obtain ⟨A, cap, rfl, hcap, hlc⟩ := HL.out
  obtain ⟨b, o, rfl, hb, _, _⟩ := hlc hll.2
  clear HO1 HB1 HBc HL hlc hb HV HV1 HFM
  obtain ⟨hll1, hll2⟩ := hll
  go_wp2
  go_loopw [7, 9] (fun uv iv wr => ∃ (i : Nat) (es : Es) (hits misses gn : Int) (fp : Nat → Prop), iv = .int .i64 i ∧ i ≤ ls.length ∧ Hid (CObj IS wr c n es hits misses gn fp) ∧ Hid (Good es n) ∧ Hid (SlIn wr uv ((es.map (·.1)).map Value.string) fun b => ¬ fp b) ∧ Hid (OpsIn wr (.slice (some ⟨b, o, none⟩) ls.length cap) ls fun b => ¬ fp b) ∧ Hid (0 ≤ hits ∧ hits ≤ i ∧ 0 ≤ misses ∧ misses ≤ i ∧ 0 ≤ gn ∧ gn ≤ i) ∧ Hid (Below w.heap.size w wr) ∧ Hid (∀ b, fp b → w.heap.size ≤ b)) (fun _ iv _ => ls.length - (intOf iv).toNat)
  case atStart => exact ⟨0, [], 0, 0, 0, fp1, rfl, Nat.zero_le _, HOC, Lib.hid (Good.nil (by omega)), Lib.hid (SlIn.nil _), HLC, Lib.hid (by omega), HBW, HF1⟩
  case round =>
    clear HOC HLC HBW HF1
    obtain ⟨i, es, hits, misses, gn, fp, rfl, hi, HO, HG, HU, HL, HN, HB, HF⟩ := hrel
    by_cases hlt : i < ls.length
    · by_cases h300 : i < 300
      · have k300 : decide ((i : Int) < 300) = true := decide_eq_true (by omega)
        have hcells : ∀ (j : Nat) u, (ls[i]).cells[j]? = some u → wr.cell? ⟨b, o + i * 3 + j, none⟩ = some u := by
          obtain ⟨A2, cap2, e1, e2, e3⟩ := HL.out
          obtain ⟨b2, o2, e4, e5, e6, e7⟩ := e3 hll2
          injection e1 with e1 e8 e9
          rw [e4] at e1
          injection e1 with e1
          injection e1 with e1 e10
          subst e1 e10
          exact (e7 i hlt)
        have c0 : wr.cell? ⟨b, o + i * 3, none⟩ = some (.int .i64 ls[i].kind) := hcells 0 _ rfl
        have c1 : wr.cell? ⟨b, o + i * 3 + 1, none⟩ = some (.int .i64 ls[i].k) := hcells 1 _ rfl
        have c2 : wr.cell? ⟨b, o + i * 3 + 2, none⟩ = some (.string ls[i].val) := hcells 2 _ rfl
        have HX := Lib.hid (HOS2.out _ (List.getElem_mem hlt))
        obtain ⟨x, hx⟩ : ∃ x, x = ls[i] := ⟨_, rfl⟩
        rw [← hx] at c0 c1 c2 HX
        clear hcells hx
        obtain ⟨kd, kk, val⟩ := x
        obtain ⟨KS, hKS⟩ : ∃ KS, KS = es.map (·.1) := ⟨_, rfl⟩
        have HKE := Lib.hid hKS
        have hKL : KS.length = es.length := by rw [hKS, List.length_map]
        have hKn : KS.length ≤ n := by have := HG.out.len; omega
        rw [← hKS] at HU
        have HKL := Lib.hid hKL
        clear hKS hKL
        obtain ⟨UA, ucap, rfl, hucap, _⟩ := HU.out.strs
        go_wp2_with fail
        refine (digits_calls kk HX.out.2.1 wr).mono ?_
        rintro r w4 ⟨rfl, rfl⟩
        obtain ⟨k, hk⟩ : ∃ k, k = dkey kk := ⟨_, rfl⟩
        have hks : k.size ≤ 21 := by rw [hk]; exact dkey_size kk
        rw [← hk]
        clear hk
        go_wp2_with fail
        refine (holds_calls KS k _ wr _ HU.out (by omega)).mono ?_
        rintro r w4 ⟨rfl, rfl⟩
        have hkb : hasB KS k = (findV es k).isSome := by rw [HKE.out]; exact has_find es k
        obtain ⟨kb, hkbe⟩ : ∃ kb, kb = hasB KS k := ⟨_, rfl⟩
        have HKB := Lib.hid (show (findV es k).isSome = kb by rw [hkbe, hkb])
        rw [← hkbe]
        have HKB2 := Lib.hid hkbe
        clear hkb hkbe
        go_upto_if 59 with (fail)
        go_cut [7] (fun uv wc => ∃ (es' : Es) (hits' misses' gn' : Int) (fp' : Nat → Prop), Hid (CObj IS wc c n es' hits' misses' gn' fp') ∧ Hid (Good es' n) ∧ Hid (SlIn wc uv ((es'.map (·.1)).map Value.string) fun b => ¬ fp' b) ∧ Hid (OpsIn wc (.slice (some ⟨b, o, none⟩) ls.length cap) ls fun b => ¬ fp' b) ∧ Hid (0 ≤ hits' ∧ hits' ≤ i + 1 ∧ 0 ≤ misses' ∧ misses' ≤ i + 1 ∧ 0 ≤ gn' ∧ gn' ≤ i + 1) ∧ Hid (Below w.heap.size w wc) ∧ Hid (∀ b, fp' b → w.heap.size ≤ b))
        case first =>
          by_cases hodd : kd.tmod 2 = 1
          · have t59 : (kd.tmod 2 == 1) = true := by rw [hodd]; rfl
            clear hodd
            go_wp2_with fail
            refine (putO k val HO.out (by unfold maxLen; omega) HG.out.ksm (by omega) HG.out.len (by have := HKL.out; omega) (by have := HN.out; omega)).mono ?_
            rintro r w5 ⟨rfl, fp5, ho, ht, hf⟩
            obtain ⟨s1, s2, s3⟩ := stepB HB.out HB.out.size HF.out ht hf
            have HU5 := Lib.hid (HU.out.turn ht hf)
            have HL5 := Lib.hid (HL.out.turn ht hf)
            have HO5 := Lib.hid ho
            have HB5 := Lib.hid s1
            have HF5 := Lib.hid s2
            have HG5 := Lib.hid (HG.out.put HO.out.nodup (by omega) (k := k) (v := val) (by omega))
            have HPK := Lib.hid (put_keys (k := k) (v := val) HO.out.nodup (show es.length ≤ n by have := HKL.out; omega))
            have HPF := Lib.hid (find_put (k := k) (v := val) (show es.length ≤ n by have := HKL.out; omega))
            have HON := Lib.hid (one_le (putOut es n k).2)
            have c2' : w5.cell? ⟨b, o + i * 3 + 2, none⟩ = some (.string val) := by
              have hnf : ¬ fp b := by
                obtain ⟨A2, cap2, e1, e2, e3⟩ := HL.out
                obtain ⟨b2, o2, e4, e5, e6, e7⟩ := e3 hll2
                injection e1 with e1 e8 e9
                rw [e4] at e1
                injection e1 with e1
                injection e1 with e1 e10
                subst e1
                exact e6
              rw [ht.cell (p := ⟨b, o + i * 3 + 2, none⟩) (by have := HO.out; obtain ⟨A2, cap2, e1, e2, e3⟩ := HL.out; obtain ⟨b2, o2, e4, e5, e6, e7⟩ := e3 hll2; injection e1 with e1 e8 e9; rw [e4] at e1; injection e1 with e1; injection e1 with e1 e10; subst e1; exact e5) hnf]
              exact c2
            have hR : (kb = true → putOut es n k = (⟨#[]⟩, false)) ∧ (kb = false → n = 0 → putOut es n k = (k, true)) ∧ (kb = false → KS.length < n → putOut es n k = (⟨#[]⟩, false)) ∧ (kb = false → 0 < n → ¬ KS.length < n → ∃ h : n - 1 < KS.length, putOut es n k = (KS[n - 1], true)) := by
              have e1 := HKB.out
              have e2 := HKL.out
              refine ⟨fun h => ?_, fun h h0 => ?_, fun h h0 => ?_, fun h h0 h1 => ?_⟩
              · unfold putOut; rw [e1, h, if_pos rfl]
              · unfold putOut; rw [e1, h, if_neg (by simp), if_pos (by omega)]
              · unfold putOut; rw [e1, h, if_neg (by simp), if_neg (by omega), if_pos (by omega)]
              · have hh : n - 1 < KS.length := by omega
                refine ⟨hh, ?_⟩
                have h5 := put_last (es := es) (n := n) (k := k) (by rw [e1, h]) (by omega) h0 (by rw [← HKE.out]; exact hh)
                rw [h5]
                simp only [HKE.out]
            have HR := Lib.hid hR
            clear hR
            obtain ⟨R, hRe⟩ : ∃ R, R = putOut es n k := ⟨_, rfl⟩
            rw [← hRe] at HR HON HO5 ⊢
            obtain ⟨old, ok⟩ := R
            clear hRe ho ht hf s1 s2 s3
            go_upto_region 14 with (fail)
            go_cut [14] (fun bv wc => bv = .bool (!kb && decide (n ≤ KS.length)) ∧ w5 = wc)
            case first =>
              cases kb
              · by_cases hk0 : n ≤ KS.length
                · have hk1 : decide (n ≤ KS.length) = true := decide_eq_true hk0
                  go_wp2
                  go_meet
                  case rel => exact ⟨by rw [hk1]; rfl, rfl⟩
                · have hk1 : decide (n ≤ KS.length) = false := decide_eq_false hk0
                  go_wp2
                  go_meet
                  case rel => exact ⟨by rw [hk1]; rfl, rfl⟩
              · go_wp2
                go_meet
                case rel => exact ⟨rfl, rfl⟩
            case rest =>
            obtain ⟨rfl, rfl⟩ := hcut
            obtain ⟨gb, hgb⟩ : ∃ gb, gb = (!kb && decide (n ≤ KS.length)) := ⟨_, rfl⟩
            rw [← hgb]
            have HGB := Lib.hid hgb
            clear hgb
            go_upto_region 15 with (fail)
            go_cut [114] (fun bv wc => bv = .bool false ∧ w5 = wc)
            case first =>
              cases kb
              · by_cases hn0 : n = 0
                · have h5 := HR.out.2.1 rfl hn0
                  injection h5 with h5 h6
                  subst h5 h6
                  obtain rfl : gb = true := by rw [HGB.out, decide_eq_true (by omega)]; rfl
                  have hn1 : ((n : Int) == 0) = true := by rw [hn0]; rfl
                  have hn2 : decide (0 < n) = false := decide_eq_false (by omega)
                  have hst := str_eq old
                  clear hn0
                  go_wp2
                  go_meet
                  case rel => exact ⟨rfl, rfl⟩
                · have hn1 : ((n : Int) == 0) = false := by rw [beq_eq_false_iff_ne]; omega
                  have hn2 : decide (0 < n) = true := decide_eq_true (by omega)
                  by_cases hlt2 : KS.length < n
                  · have h5 := HR.out.2.2.1 rfl hlt2
                    injection h5 with h5 h6
                    subst h5 h6
                    obtain rfl : gb = false := by rw [HGB.out, decide_eq_false (by omega)]; rfl
                    clear hn0
                    go_wp2
                    go_meet
                    case rel => exact ⟨rfl, rfl⟩
                  · obtain ⟨hi1, h5⟩ := HR.out.2.2.2 rfl (by omega) hlt2
                    injection h5 with h5 h6
                    subst h6
                    obtain rfl : gb = true := by rw [HGB.out, decide_eq_true (by omega)]; rfl
                    obtain ⟨A2, cap2, e1, e2, e3⟩ := HU5.out.strs
                    obtain ⟨ub, uo, e4, e5, e6⟩ := e3 (by omega)
                    injection e1 with e1 e8 e9
                    rw [e4] at e1
                    have hcu := e6 (n - 1) hi1
                    rw [← h5] at hcu
                    subst e1
                    have hst := str_eq old
                    have hb1 : 1 ≤ (n : Int) := by omega
                    have hb2 : (n : Int) - 1 < (KS.length : Int) := by omega
                    clear hn0 e6 e2 e3 e4 e8 e9 h5
                    go_wp2
                    go_meet
                    case rel => exact ⟨rfl, rfl⟩
              · have h5 := HR.out.1 rfl
                injection h5 with h5 h6
                subst h5 h6
                obtain rfl : gb = false := by rw [HGB.out]; rfl
                go_wp2
                go_meet
                case rel => exact ⟨rfl, rfl⟩
            case rest =>
            obtain ⟨rfl, rfl⟩ := hcut
            go_wp2_with fail
            refine (used_calls KS k _ w5 _ HU5.out (by omega)).mono ?_
            rintro r w6 ⟨u, rfl, hrow, hb6⟩
            have hUL : (k :: filt KS k).length ≤ KS.length + 1 := by
              have : (filt KS k).length ≤ KS.length := List.length_filter_le _ _
              simp only [List.length_cons]; omega
            have HPT := Lib.hid (show (putE es n k val).map (·.1) = (k :: filt KS k).take n by rw [HPK.out, HKE.out])
            obtain ⟨US, hUS⟩ : ∃ US, US = k :: filt KS k := ⟨_, rfl⟩
            have hUpos : 0 < US.length := by rw [hUS]; simp
            rw [← hUS] at hrow hUL HPT
            obtain ⟨gu, cu, rfl, hgu1, hgu2⟩ := World.ownsRow.form hrow (by omega)
            have HIU := Lib.hid ((SlIn.of_own hrow).mono (B' := fun b => ¬ fp5 b) (fun b _ h1 h2 => by have := HO5.out.lt h2; omega))
            have HL6 := Lib.hid (HL5.out.below hb6)
            have HO6 := Lib.hid (HO5.out.keep (w' := w6) fun b hb' => hb6.block b (HO5.out.lt hb'))
            have HB6 := Lib.hid (HB5.out.trans (hb6.mono HB5.out.size))
            have c2'' : w6.cell? ⟨b, o + i * 3 + 2, none⟩ = some (.string val) := by
              rw [hb6.cell (p := ⟨b, o + i * 3 + 2, none⟩) (by
                obtain ⟨A2, cap2, e1, e2, e3⟩ := HL5.out; obtain ⟨b2, o2, e4, e5, e6, e7⟩ := e3 hll2; injection e1 with e1 e8 e9; rw [e4] at e1; injection e1 with e1; injection e1 with e1 e10; subst e1; exact e5)]
              exact c2'
            have huc : US.length ≤ cu := by
              obtain ⟨A2, cap2, e1, e2, _⟩ := HIU.out.strs
              injection e1 with e1 e8 e9
              omega
            clear hrow hb6 hUS hgu1 hgu2 c2' c0 c1 c2
            have HT7 := Lib.hid (HIU.out.take (A := some ⟨gu, 0, none⟩) (cap := cu) (n := US.length) (by simp) (m := (US.take n).length) (by rw [List.length_map, List.length_take]; omega))
            have HM := Lib.hid (show (US.take n).length = min n US.length from List.length_take)
            obtain ⟨ml, hml⟩ : ∃ ml, ml = (US.take n).length := ⟨_, rfl⟩
            rw [← hml] at HT7 HM
            have HT8 := Lib.hid (show SlIn w6 (.slice (some ⟨gu, 0, none⟩) ml cu) (((putE es n k val).map (·.1)).map Value.string) (fun b => ¬ fp5 b) by
              rw [HPT.out, List.map_take]
              have h1 := HT7.out
              have h2 : (US.map Value.string).take ml = (US.map Value.string).take n := by
                rw [HM.out, List.take_eq_take_iff, List.length_map]; omega
              rw [h2] at h1
              exact h1)
            clear hml HT7
            go_upto_region 18 with (fail)
            go_cut [7] (fun uv wc => uv = .slice (some ⟨gu, 0, none⟩) ml cu ∧ w6 = wc)
            case first =>
              by_cases hmn : n < US.length
              · have HML := Lib.hid (show Value.slice (some ⟨gu, 0, none⟩) n cu = .slice (some ⟨gu, 0, none⟩) ml cu by rw [HM.out, Nat.min_eq_left (by omega)])
                go_wp2
                go_meet
                case rel => exact ⟨HML.out, rfl⟩
              · have HML := Lib.hid (show Value.slice (some ⟨gu, 0, none⟩) US.length cu = .slice (some ⟨gu, 0, none⟩) ml cu by rw [HM.out, Nat.min_eq_right (by omega)])
                go_wp2
                go_meet
                case rel => exact ⟨HML.out, rfl⟩
            case rest =>
            obtain ⟨rfl, rfl⟩ := hcut
            obtain ⟨es2, hes2⟩ : ∃ es2, es2 = putE es n k val := ⟨_, rfl⟩
            rw [← hes2] at HT8 HO6 HG5 HPF
            clear hes2 HPT HPK
            go_wp2_with fail
            refine (peekO k HO6.out (by unfold maxLen; omega)).mono ?_
            rintro r w7 ⟨rfl, hb7⟩
            have HO7 := Lib.hid (HO6.out.keep (w' := w7) fun b hb' => hb7.block b (HO6.out.lt hb'))
            have HB7 := Lib.hid (HB6.out.trans (hb7.mono HB6.out.size))
            have HL7 := Lib.hid (HL6.out.below hb7)
            have HT7 := Lib.hid (HT8.out.below hb7)
            have c2 : w7.cell? ⟨b, o + i * 3 + 2, none⟩ = some (.string val) := by
              rw [hb7.cell (p := ⟨b, o + i * 3 + 2, none⟩) (by
                obtain ⟨A2, cap2, e1, e2, e3⟩ := HL6.out; obtain ⟨b2, o2, e4, e5, e6, e7⟩ := e3 hll2; injection e1 with e1 e8 e9; rw [e4] at e1; injection e1 with e1; injection e1 with e1 e10; subst e1; exact e5)]
              exact c2''
            have HNN := Lib.hid (show 0 ≤ hits ∧ hits ≤ i + 1 ∧ 0 ≤ misses ∧ misses ≤ i + 1 ∧ 0 ≤ gn + one ok ∧ gn + one ok ≤ i + 1 by have := HN.out; have := HON.out; omega)
            clear hb7 c2''
            by_cases hn0 : n = 0
            · have hk2 : decide (0 < n) = false := decide_eq_false (by omega)
              rw [HPF.out.2 hn0]
              clear hn0
              go_wp2
              go_meet
              case rel => exact ⟨es2, hits, misses, gn + one ok, fp5, HO7, HG5, HT7, HL7, HNN, HB7, HF5⟩
            · have hk2 : decide (0 < n) = true := decide_eq_true (by omega)
              rw [HPF.out.1 (by omega)]
              have hst := str_eq val
              clear hn0
              go_wp2
              go_meet
              case rel => exact ⟨es2, hits, misses, gn + one ok, fp5, HO7, HG5, HT7, HL7, HNN, HB7, HF5⟩
          · have t59 : (kd.tmod 2 == 1) = false := by rw [beq_eq_false_iff_ne]; exact hodd
            clear hodd
            go_wp2_with fail
            refine (getO k HO.out (by unfold maxLen; omega) (by have := HN.out; omega) (by have := HN.out; omega)).mono ?_
            rintro r w5 ⟨rfl, fp5, ho, ht, hf⟩
            rw [HKB.out] at ho ⊢
            obtain ⟨s1, s2, s3⟩ := stepB HB.out HB.out.size HF.out ht hf
            have HU5 := Lib.hid (HU.out.turn ht hf)
            have HL5 := Lib.hid (HL.out.turn ht hf)
            have HO5 := Lib.hid ho
            have HB5 := Lib.hid s1
            have HF5 := Lib.hid s2
            have HG5 := Lib.hid (HG.out.get HO.out.nodup k)
            clear ho ht hf s1 s2 s3 c0 c1 c2
            cases kb
            · have HE := Lib.hid (get_same (es := es) (k := k) HKB.out)
              have HNN := Lib.hid (show 0 ≤ hits + one false ∧ hits + one false ≤ i + 1 ∧ 0 ≤ misses + one (!false) ∧ misses + one (!false) ≤ i + 1 ∧ 0 ≤ gn ∧ gn ≤ i + 1 by have := HN.out; show 0 ≤ hits + 0 ∧ hits + 0 ≤ i + 1 ∧ 0 ≤ misses + 1 ∧ misses + 1 ≤ i + 1 ∧ 0 ≤ gn ∧ gn ≤ i + 1; omega)
              go_wp2
              go_meet
              case rel => exact ⟨getE es k, hits + one false, misses + one (!false), gn, fp5, HO5, HG5, Lib.hid (by rw [HE.out, ← HKE.out]; exact HU5.out), HL5, HNN, HB5, HF5⟩
            · have HE := Lib.hid (get_keys (es := es) (k := k) HKB.out)
              have HNN := Lib.hid (show 0 ≤ hits + one true ∧ hits + one true ≤ i + 1 ∧ 0 ≤ misses + one (!true) ∧ misses + one (!true) ≤ i + 1 ∧ 0 ≤ gn ∧ gn ≤ i + 1 by have := HN.out; show 0 ≤ hits + 1 ∧ hits + 1 ≤ i + 1 ∧ 0 ≤ misses + 0 ∧ misses + 0 ≤ i + 1 ∧ 0 ≤ gn ∧ gn ≤ i + 1; omega)
              go_wp2_with fail
              refine (used_calls KS k _ w5 _ HU5.out (by omega)).mono ?_
              rintro r w6 ⟨u, rfl, hrow, hb6⟩
              have HIU := Lib.hid (show SlIn w6 u (((getE es k).map (·.1)).map Value.string) (fun b => ¬ fp5 b) by
                rw [HE.out, ← HKE.out]
                exact (SlIn.of_own hrow).mono (fun b _ h1 h2 => by have := HO5.out.lt h2; omega))
              have HL6 := Lib.hid (HL5.out.below hb6)
              have HO6 := Lib.hid (HO5.out.keep (w' := w6) fun b hb' => hb6.block b (HO5.out.lt hb'))
              have HB6 := Lib.hid (HB5.out.trans (hb6.mono HB5.out.size))
              clear hrow hb6
              go_wp2
              go_meet
              case rel => exact ⟨getE es k, hits + one true, misses + one (!true), gn, fp5, HO6, HG5, HIU, HL6, HNN, HB6, HF5⟩
        case rest =>
        clear HO HG HU HL HN HB HF HKE HKL HKB HKB2 hKn hucap c0 c1 c2
        obtain ⟨es, hits, misses, gn, fp, HO, HG, HU, HL, HN, HB, HF⟩ := hcut
        obtain ⟨KS, hKS⟩ : ∃ KS, KS = es.map (·.1) := ⟨_, rfl⟩
        have HKE := Lib.hid hKS
        have HKL := Lib.hid (show KS.length = es.length by rw [hKS, List.length_map])
        have HEN := Lib.hid (show es.length ≤ n by have := HG.out.len; omega)
        rw [← hKS] at HU
        obtain ⟨UA, ucap, rfl, hucap, _⟩ := HU.out.strs
        clear hKS
        go_wp2_with fail
        refine (keysO HO.out (by have := HEN.out; omega)).mono ?_
        rintro r w8 ⟨vk, rfl, hrow, hb8⟩
        rw [← HKE.out] at hrow
        have HIK := Lib.hid (SlIn.of_own hrow)
        have HU8 := Lib.hid (HU.out.below hb8)
        have HL8 := Lib.hid (HL.out.below hb8)
        have HO8 := Lib.hid (HO.out.keep (w' := w8) fun b hb' => hb8.block b (HO.out.lt hb'))
        have HB8 := Lib.hid (HB.out.trans (hb8.mono HB.out.size))
        clear hrow hb8
        go_wp2_with fail
        refine (same_calls KS KS _ _ w8 _ _ HIK.out HU8.out (by have := HKL.out; have := HEN.out; omega) (by have := HKL.out; have := HEN.out; omega)).mono ?_
        rintro r w9 ⟨rfl, hb9⟩
        rw [show sameB KS KS = true from decide_eq_true rfl]
        have HU9 := Lib.hid (HU8.out.below hb9)
        have HL9 := Lib.hid (HL8.out.below hb9)
        have HO9 := Lib.hid (HO8.out.keep (w' := w9) fun b hb' => hb9.block b (HO8.out.lt hb'))
        have HB9 := Lib.hid (HB8.out.trans (hb9.mono HB8.out.size))
        clear hb9
        go_wp2_with fail
        refine (lenO HO9.out).mono ?_
        rintro r w10 ⟨rfl, rfl⟩
        rw [← HKL.out]
        go_wp2
        exact ⟨⟨i + 1, es, hits, misses, gn, fp, by go_num, by omega, HO9, HG, Lib.hid (by rw [← HKE.out]; exact HU9.out), HL9, HN, HB9, HF⟩, by simp [intOf]; omega⟩
      · have k300 : decide ((i : Int) < 300) = false := decide_eq_false (by omega)
        go_wp2
        go_ret
        exact ⟨rfl, HB.out⟩
    · by_cases h300 : i < 300
      · have k300 : decide ((i : Int) < 300) = true := decide_eq_true (by omega)
        go_wp2
        go_ret
        exact ⟨rfl, HB.out⟩
      · have k300 : decide ((i : Int) < 300) = false := decide_eq_false (by omega)
        go_wp2
        go_ret
        exact ⟨rfl, HB.out⟩
end Go.Proofs.Ytfkdmbiejledoaa
