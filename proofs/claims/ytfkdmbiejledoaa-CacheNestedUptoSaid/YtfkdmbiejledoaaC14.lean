/-
  the law CacheNested, walked.
-/
import Derived.Test.YtfkdmbiejledoaaC13
import Derived.Test.YtfkdmbiejledoaaG6
set_option linter.unusedVariables false
set_option linter.unusedSimpArgs false
namespace Go.Proofs.Ytfkdmbiejledoaa
open Go.RowKit


theorem info35 : (Try.prog.info? 35).map (fun i => (i.zero, i.size, i.bytes)) = some (some (.agg #[.int .i64 0, .int .i64 0, .string ⟨#[]⟩]), 3, 32) := by kernel_rfl
def FIRST : OpV := ⟨3, 1, ⟨#[102, 105, 114, 115, 116]⟩⟩
theorem first_made (w : World) : (w.alloc (.cells #[.int .i64 3, .int .i64 1, .string ⟨#[102, 105, 114, 115, 116]⟩] 35)).ownsRow w.heap.size 35 3 (.slice (some ⟨w.heap.size, 0, none⟩) 1 1) 1 FIRST.cells :=
  ⟨rfl, .inr ⟨w.heap.size, 1, #[.int .i64 3, .int .i64 1, .string ⟨#[102, 105, 114, 115, 116]⟩], rfl, Nat.le_refl _, (MapKept.heap_alloc w _).1, Nat.le_refl _, by unfold maxLen; omega, rfl, rfl⟩⟩
structure NSt (i : Nat) (a b : Es) (n m : Nat) (h1 m1 g1 h2 m2 g2 : Int) : Prop where
  ga : Good a n
  gb : Good b m
  nest : Nest a b n m
  hits : 0 ≤ h1 ∧ h1 ≤ h2 ∧ h2 ≤ i
  miss : 0 ≤ m2 ∧ m2 ≤ m1 ∧ m1 ≤ i
  gone : 0 ≤ g2 ∧ g2 ≤ g1 ∧ g1 ≤ i
  first : i = 0 → b = [] ∧ g2 = 0
theorem NSt.step {i : Nat} {a b : Es} {n m : Nat} {h1 m1 g1 h2 m2 g2 : Int} (H : NSt i a b n m h1 m1 g1 h2 m2 g2) (hnm : n ≤ m) (ha : (a.map (·.1)).Nodup) (hb : (b.map (·.1)).Nodup) (kd : Int) (k v : ByteArray) (hk : k.size ≤ 100) :
    NSt (i + 1) (tellE a n kd k v) (tellE b m kd k v) n m (h1 + tellH a kd k) (m1 + tellM a kd k) (g1 + tellG a n kd k) (h2 + tellH b kd k) (m2 + tellM b kd k) (g2 + tellG b m kd k) := by
  obtain ⟨c1, c2, c3⟩ := H.nest.counts H.ga H.gb (by omega) (by omega) kd k
  have b1 := tell_bounds a n kd k
  have b2 := tell_bounds b m kd k
  have hh := H.hits
  have hm := H.miss
  have hg := H.gone
  exact ⟨H.ga.tell ha (by omega) hk, H.gb.tell hb (by omega) hk, H.nest.tell H.ga H.gb ha hb (by omega) (by omega) kd k v, by omega, by omega, by omega, fun h => by omega⟩
theorem NSt.fst1 {a b : Es} {n m : Nat} {h1 m1 g1 h2 m2 g2 : Int} (H : NSt 0 a b n m h1 m1 g1 h2 m2 g2) (k v : ByteArray) :
    (m = 0 → (tellE b m 3 k v).length = 0 ∧ g2 + tellG b m 3 k = 1) ∧ (0 < m → (tellE b m 3 k v).length = 1 ∧ g2 + tellG b m 3 k = 0) := by
  obtain ⟨rfl, rfl⟩ := H.first rfl
  have e1 : tellE [] m 3 k v = putE [] m k v := rfl
  have e2 : tellG [] m 3 k = one (putOut [] m k).2 := rfl
  rw [e1, e2]
  refine ⟨fun h => ?_, fun h => ?_⟩
  · subst h; exact ⟨rfl, rfl⟩
  · have hf : (findV ([] : Es) k).isSome = false := rfl
    have h0 : (m : Int) ≠ 0 := by omega
    have hr : ((([] : Es).length : Nat) : Int) < m := by simp; omega
    rw [putE_room hf h0 hr]
    refine ⟨rfl, ?_⟩
    unfold putOut
    rw [if_neg (by rw [hf]; simp), if_neg h0, if_pos hr]
    rfl
set_option maxHeartbeats 4000000 in
set_option maxRecDepth 100000 in
theorem nested_calls (small more : Int) (os : List OpV) (v : Value) (w : World) (hv : OpsIn w v os fun _ => True) (hl : os.length ≤ 2000000) (hos : ∀ x ∈ os, OpVOk x) (hsmall : InI64 small) (hmore : InI64 more) :
    Calls Try.prog 8 #[.int .i64 small, .int .i64 more, v] w fun r w' => r = .returned (.bool true) ∧ Below w.heap.size w w' := by
  have HOS := Lib.hid hos
  have HMO := Lib.hid hsmall
  have HMR := Lib.hid hmore
  have HV := Lib.hid hv
  clear hos hsmall hmore hv
  go_enter Try.func8, Try.ntmps8
  go_wp2_with fail
  refine (pick_calls small 12 (by omega) (by omega) HMO.out w).mono ?_
  rintro r w1 ⟨rfl, rfl⟩
  have hp := pickZ_in small 12 (by omega)
  obtain ⟨n, hpe⟩ : ∃ n : Nat, (n : Int) = pickZ small 12 := ⟨(pickZ small 12).toNat, by omega⟩
  rw [← hpe] at hp ⊢
  have hn12 : n < 12 := by omega
  clear hpe hp
  go_wp2_with fail
  refine (pick_calls more 12 (by omega) (by omega) HMR.out w).mono ?_
  rintro r w1 ⟨rfl, rfl⟩
  have hp := pickZ_in more 12 (by omega)
  obtain ⟨d, hpe⟩ : ∃ d : Nat, (d : Int) = pickZ more 12 := ⟨(pickZ more 12).toNat, by omega⟩
  rw [← hpe] at hp ⊢
  have hd12 : d < 12 := by omega
  clear hpe hp
  go_upto_region 3 with (fail)
  obtain ⟨m, hm⟩ : ∃ m : Nat, m = n + d := ⟨_, rfl⟩
  have hm24 : m < 24 := by omega
  have hnm : n ≤ m := by omega
  rw [show (n : Int) + (d : Int) = (m : Int) by omega]
  clear hm hd12
  go_wp2_with fail
  refine (newO n (by omega) (by omega) w).mono ?_
  rintro r w0 ⟨c1, fp1, rfl, ho, hf, hb⟩
  have HA0 := Lib.hid ho
  have HF1 := Lib.hid hf
  have HB0 := Lib.hid hb
  clear ho hf hb
  go_wp2_with fail
  refine (newO m (by omega) (by omega) w0).mono ?_
  rintro r w1 ⟨c2, fp2, rfl, ho, hf, hb⟩
  have HO1 := Lib.hid (HA0.out.keep (w' := w1) fun b hb' => hb.block b (HA0.out.lt hb'))
  have HO2 := Lib.hid ho
  have HF2 := Lib.hid (fun b (h : fp2 b) => show w.heap.size ≤ b from Nat.le_trans HB0.out.size (hf b h))
  have HD := Lib.hid (show ∀ b, fp1 b → ¬ fp2 b from fun b h1 h2 => by have := HA0.out.lt h1; have := hf b h2; omega)
  have HB1 := Lib.hid (HB0.out.trans (hb.mono HB0.out.size))
  have HV1 := Lib.hid (HV.out.below HB1.out)
  clear ho hf hb HA0 HB0
  obtain ⟨i0, hi0, hz0, hz1, hz2⟩ := info_parts info35
  have HFM := Lib.hid (first_made w1)
  go_upto_region 7 with (fail)
  go_cut [11] (fun lv wc => Hid (OpsIn wc lv (FIRST :: os) (w1.heap.size ≤ ·)) ∧ Hid (Below w1.heap.size w1 wc))
  case first =>
    have HIB := Lib.hid ((Below.refl w1.heap.size w1).alloc (Nat.le_refl _) (.cells #[.int .i64 3, .int .i64 1, .string ⟨#[102, 105, 114, 115, 116]⟩] 35))
    by_cases h0 : os.length = 0
    · have HFO := Lib.hid (show FIRST :: os = [FIRST] by rw [List.eq_nil_of_length_eq_zero h0])
      obtain ⟨A, cap, hvv, _⟩ := HV1.out
      have HVE := Lib.hid (show v = .slice A 0 cap by rw [hvv, h0])
      clear hvv
      go_wp2_with (at_builtin; refine wpList_append_zero rfl (.tmp 37) (.tmp 38) 32 rfl w1.heap.size 35 i0 3 Try.underlying32 hi0 _ 1 _ rfl HFM.out A cap HVE.out ?_)
      go_wp2
      go_meet
      case rel => exact ⟨Lib.hid (by rw [HFO.out]; exact OpsIn.of_own HFM.out rfl), HIB⟩
    · obtain ⟨b, o, cap2, hvv, hnews⟩ := (HV1.out.below HIB.out).news (by omega)
      have HVE := Lib.hid hvv
      clear hvv
      have HNW := Lib.hid hnews
      have HFL := Lib.hid (flat_len os)
      clear hnews
      go_wp2_with (at_builtin; refine wpList_append_lies _ rfl (.tmp 37) (.tmp 38) 32 rfl w1.heap.size 35 i0 (.agg #[.int .i64 0, .int .i64 0, .string ⟨#[]⟩]) 3 32 Try.underlying32 hi0 hz0 hz1 hz2 rfl (by decide) _ 1 FIRST.cells rfl HFM.out ⟨b, o, none⟩ os.length cap2 (os.flatMap OpV.cells) HVE.out HFL.out HNW.out (by intro u hu; obtain ⟨x, _, hx⟩ := List.mem_flatMap.1 hu; simp [OpV.cells] at hx; rcases hx with rfl | rfl | rfl <;> rfl) (by omega) (by unfold maxLen; omega) (by omega) (by simp) _ rfl ?_)
      intro g capg w2 hown hgrow hat hltg
      have HI2 := Lib.hid (OpsIn.of_own (os := FIRST :: os) (w := w2) (by rw [List.flatMap_cons]; exact hown) (by simp; omega))
      have HB2 := Lib.hid (HIB.out.grown hgrow (by simp) (fun k hk => by simp [Value.ownBlock] at hk; omega))
      clear hown hgrow hat hltg
      go_wp2
      go_meet
      case rel => exact ⟨HI2, HB2⟩
  case rest =>
  obtain ⟨HL, HBc⟩ := hcut
  have HOS2 : Hid (∀ x ∈ FIRST :: os, OpVOk x) := Lib.hid fun x hx => by
    rcases List.mem_cons.1 hx with rfl | hx
    · exact ⟨⟨by decide, by decide⟩, ⟨by decide, by decide⟩, by decide⟩
    · exact HOS.out x hx
  obtain ⟨ls, hls⟩ : ∃ ls, ls = FIRST :: os := ⟨_, rfl⟩
  rw [← hls] at HL HOS2
  have hll : ls.length ≤ 2000001 ∧ 0 < ls.length := by rw [hls]; simp; omega
  have HFI := Lib.hid (show ∀ i (h : i < ls.length), i = 0 → (ls[i]).kind = 3 from fun i h h0 => by subst h0; subst hls; rfl)
  clear hls HOS
  have HOC1 := Lib.hid (HO1.out.keep (w' := wc) fun b hb => HBc.out.block b (HO1.out.lt hb))
  have HOC2 := Lib.hid (HO2.out.keep (w' := wc) fun b hb => HBc.out.block b (HO2.out.lt hb))
  have HLC := Lib.hid (HL.out.mono (B' := fun b => ¬ (fp1 b ∨ fp2 b)) fun b _ hb h => by
    rcases h with h | h
    · have := HO1.out.lt h; omega
    · have := HO2.out.lt h; omega)
  have HBW := Lib.hid (HB1.out.trans (HBc.out.mono HB1.out.size))
  obtain ⟨A, cap, rfl, hcap, hlc⟩ := HL.out
  obtain ⟨b, o, rfl, hb, _, _⟩ := hlc hll.2
  have HN0 := Lib.hid (show NSt 0 [] [] n m 0 0 0 0 0 0 from ⟨Good.nil (by omega), Good.nil (by omega), ⟨List.Sublist.refl _, by simp only [List.length_nil]; omega⟩, by omega, by omega, by omega, fun _ => ⟨rfl, rfl⟩⟩)
  clear HO1 HO2 HB1 HBc HL hlc hb HV HV1 HFM
  obtain ⟨hll1, hll2⟩ := hll
  go_wp2
  go_loopw [12] (fun iv wr => ∃ (i : Nat) (a b' : Es) (h1 m1 g1 h2 m2 g2 : Int) (fp1 fp2 : Nat → Prop), iv = .int .i64 i ∧ i ≤ ls.length ∧ Hid (CObj IS wr c1 n a h1 m1 g1 fp1) ∧ Hid (CObj IS wr c2 m b' h2 m2 g2 fp2) ∧ Hid (NSt i a b' n m h1 m1 g1 h2 m2 g2) ∧ Hid (∀ b, fp1 b → ¬ fp2 b) ∧ Hid (OpsIn wr (.slice (some ⟨b, o, none⟩) ls.length cap) ls fun b => ¬ (fp1 b ∨ fp2 b)) ∧ Hid (Below w.heap.size w wr) ∧ Hid (∀ b, fp1 b → w.heap.size ≤ b) ∧ Hid (∀ b, fp2 b → w.heap.size ≤ b)) (fun iv _ => ls.length - (intOf iv).toNat)
  case atStart => exact ⟨0, [], [], 0, 0, 0, 0, 0, 0, fp1, fp2, rfl, Nat.zero_le _, HOC1, HOC2, HN0, HD, HLC, HBW, HF1, HF2⟩
  case round =>
    clear HOC1 HOC2 HLC HBW HF1 HF2 HN0 HD
    obtain ⟨i, a, b', h1, m1, g1, h2, m2, g2, fp1, fp2, rfl, hi, HA, HO, HN, HD, HL, HB, HF1, HF2⟩ := hrel
    by_cases hlt : i < ls.length
    · by_cases h300 : i < 300
      · have k300 : decide ((i : Int) < 300) = true := decide_eq_true (by omega)
        obtain ⟨hcells, hbs, hbf⟩ : (∀ (j : Nat) u, (ls[i]).cells[j]? = some u → wr.cell? ⟨b, o + i * 3 + j, none⟩ = some u) ∧ b < wr.heap.size ∧ ¬ (fp1 b ∨ fp2 b) := by
          obtain ⟨A2, cap2, e1, e2, e3⟩ := HL.out
          obtain ⟨b2, o2, e4, e5, e6, e7⟩ := e3 hll2
          injection e1 with e1 e8 e9
          rw [e4] at e1
          injection e1 with e1
          injection e1 with e1 e10
          subst e1 e10
          exact ⟨e7 i hlt, e5, e6⟩
        have c0 : wr.cell? ⟨b, o + i * 3, none⟩ = some (.int .i64 ls[i].kind) := hcells 0 _ rfl
        have c1' : wr.cell? ⟨b, o + i * 3 + 1, none⟩ = some (.int .i64 ls[i].k) := hcells 1 _ rfl
        have c2' : wr.cell? ⟨b, o + i * 3 + 2, none⟩ = some (.string ls[i].val) := hcells 2 _ rfl
        have HX := Lib.hid (HOS2.out _ (List.getElem_mem hlt))
        have HXF := Lib.hid (HFI.out i hlt)
        obtain ⟨x, hx⟩ : ∃ x, x = ls[i] := ⟨_, rfl⟩
        rw [← hx] at c0 c1' c2' HX HXF
        clear hcells hx
        obtain ⟨kd, kk, val⟩ := x
        have HXF := Lib.hid (show i = 0 → kd = 3 from HXF.out)
        have HBS := Lib.hid (And.intro hbs hbf)
        clear hbs hbf
        have HIB := Lib.hid (show (i : Int) ≤ 300 by omega)
        have HNS := Lib.hid (HN.out.step hnm HA.out.nodup HO.out.nodup kd (dkey kk) val (by have := dkey_size kk; omega))
        have HN1 := Lib.hid (show i = 0 → (m = 0 → (tellE b' m kd (dkey kk) val).length = 0 ∧ g2 + tellG b' m kd (dkey kk) = 1) ∧ (0 < m → (tellE b' m kd (dkey kk) val).length = 1 ∧ g2 + tellG b' m kd (dkey kk) = 0) from fun h0 => by
          have h3 := HXF.out h0
          subst h3 h0
          exact HN.out.fst1 _ _)
        go_wp2_with fail
        refine (tell_calls kd kk val HA.out HN.out.ga (by omega) (by omega) HX.out.1 HX.out.2.1 (by have := HN.out.hits; have := HIB.out; omega) (by have := HN.out.miss; have := HIB.out; omega) (by have := HN.out.gone; have := HIB.out; omega)).mono ?_
        rintro r w2 ⟨rfl, fpa, ho, ht, hf⟩
        obtain ⟨s1, s2, s3⟩ := stepB HB.out HB.out.size HF1.out ht hf
        have HA2 := Lib.hid ho
        have HO2 := Lib.hid (HO.out.keep (w' := w2) fun b hb => ht.block b (HO.out.lt hb) (fun h => HD.out b h hb))
        have HB2 := Lib.hid s1
        have HFa := Lib.hid s2
        have HDa := Lib.hid (show ∀ b, fpa b → ¬ fp2 b from fun b h1 h2 => (hf b h1).elim (fun h => HD.out b h h2) (fun h => by have := HO.out.lt h2; omega))
        have HL2 := Lib.hid (HL.out.turn (fp' := fun b => fpa b ∨ fp2 b) (ht.mono (G := fun b => fp1 b ∨ fp2 b) fun b hb => .inl (.inl hb)) (fun b hb => hb.elim (fun h => (hf b h).imp .inl id) (fun h => .inl (.inr h))))
        have d0 : w2.cell? ⟨b, o + i * 3, none⟩ = some (.int .i64 kd) := by rw [ht.cell HBS.out.1 (fun h => HBS.out.2 (.inl h))]; exact c0
        have d1 : w2.cell? ⟨b, o + i * 3 + 1, none⟩ = some (.int .i64 kk) := by rw [ht.cell HBS.out.1 (fun h => HBS.out.2 (.inl h))]; exact c1'
        have d2 : w2.cell? ⟨b, o + i * 3 + 2, none⟩ = some (.string val) := by rw [ht.cell HBS.out.1 (fun h => HBS.out.2 (.inl h))]; exact c2'
        clear c0 c1' c2' ho ht hf s1 s2 s3 HB HF1 HL HO HD
        go_wp2_with fail
        refine (tell_calls kd kk val HO2.out HN.out.gb (by omega) (by omega) HX.out.1 HX.out.2.1 (by have := HN.out.hits; have := HIB.out; omega) (by have := HN.out.miss; have := HIB.out; omega) (by have := HN.out.gone; have := HIB.out; omega)).mono ?_
        rintro r w3 ⟨rfl, fpb, ho, ht, hf⟩
        obtain ⟨s1, s2, s3⟩ := stepB HB2.out HB2.out.size HF2.out ht hf
        have HO3 := Lib.hid ho
        have HA3 := Lib.hid (HA2.out.keep (w' := w3) fun b hb => ht.block b (HA2.out.lt hb) (fun h => HDa.out b hb h))
        have HB3 := Lib.hid s1
        have HFb := Lib.hid s2
        have HDb := Lib.hid (show ∀ b, fpa b → ¬ fpb b from fun b h1 h2 => (hf b h2).elim (fun h => HDa.out b h1 h) (fun h => by have := HA2.out.lt h1; omega))
        have HL3 := Lib.hid (HL2.out.turn (fp' := fun b => fpa b ∨ fpb b) (ht.mono (G := fun b => fpa b ∨ fp2 b) fun b hb => .inl (.inr hb)) (fun b hb => hb.elim (fun h => .inl (.inl h)) (fun h => (hf b h).imp .inr id)))
        clear d0 d1 d2 ho ht hf s1 s2 s3 HB2 HF2 HL2 HO2 HA2 HDa HN HBS HX HXF
        obtain ⟨a1, ha1⟩ : ∃ a1, a1 = tellE a n kd (dkey kk) val := ⟨_, rfl⟩
        obtain ⟨b1, hb1⟩ : ∃ b1, b1 = tellE b' m kd (dkey kk) val := ⟨_, rfl⟩
        obtain ⟨x1, hx1⟩ : ∃ x1, x1 = h1 + tellH a kd (dkey kk) := ⟨_, rfl⟩
        obtain ⟨y1, hy1⟩ : ∃ y1, y1 = m1 + tellM a kd (dkey kk) := ⟨_, rfl⟩
        obtain ⟨z1, hz1⟩ : ∃ z1, z1 = g1 + tellG a n kd (dkey kk) := ⟨_, rfl⟩
        obtain ⟨x2, hx2⟩ : ∃ x2, x2 = h2 + tellH b' kd (dkey kk) := ⟨_, rfl⟩
        obtain ⟨y2, hy2⟩ : ∃ y2, y2 = m2 + tellM b' kd (dkey kk) := ⟨_, rfl⟩
        obtain ⟨z2, hz2⟩ : ∃ z2, z2 = g2 + tellG b' m kd (dkey kk) := ⟨_, rfl⟩
        rw [← ha1, ← hx1, ← hy1, ← hz1] at HA3
        rw [← hb1, ← hx2, ← hy2, ← hz2] at HO3
        rw [← ha1, ← hb1, ← hx1, ← hy1, ← hz1, ← hx2, ← hy2, ← hz2] at HNS
        rw [← hb1, ← hz2] at HN1
        clear ha1 hb1 hx1 hy1 hz1 hx2 hy2 hz2
        go_wp2_with fail
        refine (countsO HA3.out).mono ?_
        rintro r w4 ⟨rfl, hb4⟩
        have HA4 := Lib.hid (HA3.out.keep (w' := w4) fun b hb => hb4.block b (HA3.out.lt hb))
        have HO4 := Lib.hid (HO3.out.keep (w' := w4) fun b hb => hb4.block b (HO3.out.lt hb))
        have HB4 := Lib.hid (HB3.out.trans (hb4.mono HB3.out.size))
        have HL4 := Lib.hid (HL3.out.below hb4)
        clear hb4 HA3 HO3 HB3 HL3
        go_wp2_with fail
        refine (countsO HO4.out).mono ?_
        rintro r w5 ⟨rfl, hb5⟩
        have HA5 := Lib.hid (HA4.out.keep (w' := w5) fun b hb => hb5.block b (HA4.out.lt hb))
        have HO5 := Lib.hid (HO4.out.keep (w' := w5) fun b hb => hb5.block b (HO4.out.lt hb))
        have HB5 := Lib.hid (HB4.out.trans (hb5.mono HB4.out.size))
        have HL5 := Lib.hid (HL4.out.below hb5)
        clear hb5 HA4 HO4 HB4 HL4
        go_wp2_with fail
        refine (within_calls HA5.out HO5.out HNS.out.ga (by omega) HNS.out.nest.sub).mono ?_
        rintro r w6 ⟨rfl, hb6⟩
        have HA6 := Lib.hid (HA5.out.keep (w' := w6) fun b hb => hb6.block b (HA5.out.lt hb))
        have HO6 := Lib.hid (HO5.out.keep (w' := w6) fun b hb => hb6.block b (HO5.out.lt hb))
        have HB6 := Lib.hid (HB5.out.trans (hb6.mono HB5.out.size))
        have HL6 := Lib.hid (HL5.out.below hb6)
        clear hb6 HA5 HO5 HB5 HL5
        have q1 : decide (x2 < x1) = false := decide_eq_false (by have := HNS.out.hits; omega)
        have q2 : decide (y1 < y2) = false := decide_eq_false (by have := HNS.out.miss; omega)
        have q3 : decide (z1 < z2) = false := decide_eq_false (by have := HNS.out.gone; omega)
        have q4 : decide ((n : Int) < (a1.length : Int)) = false := decide_eq_false (by have := HNS.out.ga.len; omega)
        have q5 : decide ((m : Int) < (b1.length : Int)) = false := decide_eq_false (by have := HNS.out.gb.len; omega)
        have q4' : decide (n < a1.length) = false := decide_eq_false (by have := HNS.out.ga.len; omega)
        have q5' : decide (m < b1.length) = false := decide_eq_false (by have := HNS.out.gb.len; omega)
        have q6 : decide (x1 < 0) = false := decide_eq_false (by have := HNS.out.hits; omega)
        have q7 : decide (z2 < 0) = false := decide_eq_false (by have := HNS.out.gone; omega)
        go_upto_region 16 with (fail)
        go_cut [113] (fun bv wc => bv = .bool false ∧ w6 = wc)
        case first =>
          go_wp2_with fail
          refine (lenO HA6.out).mono ?_
          rintro r w7 ⟨rfl, rfl⟩
          go_wp2_with fail
          refine (lenO HO6.out).mono ?_
          rintro r w7 ⟨rfl, rfl⟩
          go_wp2
          go_meet
          case rel => exact ⟨rfl, rfl⟩
        case rest =>
        obtain ⟨rfl, rfl⟩ := hcut
        go_upto_region 18 with (fail)
        go_cut [129] (fun bv wc => bv = .bool false ∧ w6 = wc)
        case first =>
          by_cases hi0 : i = 0
          · subst hi0
            by_cases hm0 : m = 0
            · subst hm0
              obtain ⟨e1, e2⟩ := (HN1.out rfl).1 rfl
              subst e2
              go_wp2_with fail
              refine (lenO HO6.out).mono ?_
              rintro r w7 ⟨rfl, rfl⟩
              rw [e1]
              go_wp2
              go_meet
              case rel => exact ⟨rfl, rfl⟩
            · obtain ⟨e1, e2⟩ := (HN1.out rfl).2 (by omega)
              subst e2
              by_cases hm1 : m = 1
              · subst hm1
                go_wp2_with fail
                refine (lenO HO6.out).mono ?_
                rintro r w7 ⟨rfl, rfl⟩
                rw [e1]
                go_wp2
                go_meet
                case rel => exact ⟨rfl, rfl⟩
              · have u1 : (1 : Int) ≤ (m : Int) := by omega
                have u2 : (1 : Int) < (m : Int) := by omega
                have u3 : (1 : Int) - (m : Int) ≤ 0 := by omega
                have u4 : (1 : Int) - (m : Int) < 0 := by omega
                go_wp2_with fail
                refine (lenO HO6.out).mono ?_
                rintro r w7 ⟨rfl, rfl⟩
                rw [e1]
                go_wp2
                go_meet
                case rel => exact ⟨rfl, rfl⟩
          · have t0 : ((i : Int) == 0) = false := by rw [beq_eq_false_iff_ne]; omega
            go_wp2
            go_meet
            case rel => exact ⟨rfl, rfl⟩
        case rest =>
        obtain ⟨rfl, rfl⟩ := hcut
        go_wp2
        exact ⟨⟨i + 1, a1, b1, x1, y1, z1, x2, y2, z2, fpa, fpb, by go_num, by omega, HA6, HO6, HNS, HDb, HL6, HB6, HFa, HFb⟩, by simp [intOf]; omega⟩
      · have k300 : decide ((i : Int) < 300) = false := decide_eq_false (by omega)
        go_wp2
        go_ret
        exact ⟨rfl, HB.out⟩
    · by_cases h300 : i < 300
      · have k300 : decide ((i : Int) < 300) = true := decide_eq_true (by omega)
        go_wp2
        go_ret
        exact ⟨rfl, HB.out⟩
      · have k300 : decide ((i : Int) < 300) = false := decide_eq_false (by omega)
        go_wp2
        go_ret
        exact ⟨rfl, HB.out⟩
end Go.Proofs.Ytfkdmbiejledoaa
