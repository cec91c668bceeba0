/-
  the law CacheScript, walked.
-/
import Derived.Test.YtfkdmbiejledoaaR7
set_option linter.unusedVariables false
set_option linter.unusedSimpArgs false
namespace Go.Proofs.Ytfkdmbiejledoaa
open Go.RowKit


structure SSt (j : Nat) (es : Es) (n h m g : Int) : Prop where
  good : Good es n
  h : 0 ≤ h ∧ h ≤ j
  m : 0 ≤ m ∧ m ≤ j
  g : 0 ≤ g ∧ g ≤ j
def Live (w : World) (c r : Nat) (n : Int) (j : Nat) (fp : Nat → Prop) : Prop := ∃ es h m g, Duo w c r n es h m g fp ∧ SSt j es n h m g
section
variable {w w' : World} {c r j j' : Nat} {n : Int} {fp : Nat → Prop}
theorem Live.mono (H : Live w c r n j fp) (h : j ≤ j') : Live w c r n j' fp := by
  obtain ⟨es, a, b, d, h1, h2⟩ := H
  exact ⟨es, a, b, d, h1, h2.good, by have := h2.h; omega, by have := h2.m; omega, by have := h2.g; omega⟩
theorem Live.lt (H : Live w c r n j fp) {b : Nat} (hb : fp b) : b < w.heap.size := by
  obtain ⟨es, a, b', d, ⟨f1, f2, h1, h2, _, h3⟩, _⟩ := H
  exact ((h3 b).1 hb).elim (fun h => h1.lt h) (fun h => h2.lt h)
theorem Live.keep (H : Live w c r n j fp) (hs : w.heap.size ≤ w'.heap.size) (hk : ∀ b, fp b → w'.heap[b]? = w.heap[b]?) : Live w' c r n j fp := by
  obtain ⟨es, a, b', d, ⟨f1, f2, h1, h2, h4, h3⟩, h5⟩ := H
  exact ⟨es, a, b', d, ⟨f1, f2, h1.keep fun b hb => hk b ((h3 b).2 (.inl hb)), h2.keep hs fun b hb => hk b ((h3 b).2 (.inr hb)), h4, h3⟩, h5⟩
theorem texts_live (kd kk : Int) (val : ByteArray) (H : Live w c r n j fp) (hj : j ≤ 900000000) (hn0 : 0 ≤ n) (hn1 : n ≤ 4096) (hkd : InI64 kd) (hkk : InI64 kk) :
    Calls Try.prog 28 #[ptr c, ptr r, .agg #[.int .i64 kd, .int .i64 kk, .string val]] w fun x w' => x = .returned (.bool true) ∧
      ∃ fp', Live w' c r n (j + 1) fp' ∧ Turn fp w w' ∧ ∀ b, fp' b → fp b ∨ w.heap.size ≤ b := by
  obtain ⟨es, h, m, g, hd, hs⟩ := H
  have hn : (es.map (·.1)).Nodup := by obtain ⟨f1, f2, h1, _⟩ := hd; exact h1.nodup
  refine (texts_calls kd kk val hd hs.good hn0 hn1 hkd hkk (by have := hs.h; omega) (by have := hs.m; omega) (by have := hs.g; omega)).mono ?_
  rintro x w1 ⟨rfl, fp', h1, h2, h3⟩
  have hb := tell_bounds es n kd (dkey kk)
  exact ⟨rfl, fp', ⟨_, _, _, _, h1, hs.good.tell hn hn0 (by have := dkey_size kk; omega), by have := hs.h; omega, by have := hs.m; omega, by have := hs.g; omega⟩, h2, h3⟩
theorem new_live {w0 w1 w2 w3 : World} {f1 f2 : Nat → Prop} (HC : CObj IS w3 c n [] 0 0 0 f1) (HR : RObj w3 r n [] 0 0 0 f2) (hd : ∀ b, f1 b → ¬ f2 b) (hn : 0 ≤ n) : Live w3 c r n 0 (fun b => f1 b ∨ f2 b) :=
  ⟨[], 0, 0, 0, ⟨f1, f2, HC, HR, hd, fun _ => Iff.rfl⟩, Good.nil hn, by omega, by omega, by omega⟩
theorem newS_no' (most : Int) (h : most < 0 ∨ 4096 < most) (w : World) : Calls Try.prog 9 #[.int .i64 most] w fun r w' => r = .returned (.pointer none) ∧ Below w.heap.size w w' :=
  (newS_no most h w).mono fun r w' ⟨h1, h2⟩ => ⟨h1, h2 ▸ Below.refl _ _⟩
theorem newR_no' (most : Int) (h : most < 0 ∨ 4096 < most) (w : World) : Calls Try.prog 27 #[.int .i64 most] w fun r w' => r = .returned (.pointer none) ∧ Below w.heap.size w w' :=
  (newR_no most h w).mono fun r w' ⟨h1, h2⟩ => ⟨h1, h2 ▸ Below.refl _ _⟩
end
set_option maxHeartbeats 4000000 in
set_option maxRecDepth 100000 in
theorem script_11 (most other : Int) (os : List OpV) (v : Value) (w : World) (hv : OpsIn w v os fun _ => True) (hl : os.length ≤ 2000000) (hos : ∀ x ∈ os, OpVOk x) (ha : 0 ≤ most ∧ most ≤ 4096) (hb : 0 ≤ other ∧ other ≤ 4096) :
    Calls Try.prog 6 #[.int .i64 most, .int .i64 other, v] w fun r w' => r = .returned (.bool true) ∧ Below w.heap.size w w' := by
  have HOS := Lib.hid hos
  have HV := Lib.hid hv
  have HA := Lib.hid ha
  have HB := Lib.hid hb
  clear hos hv ha hb
  go_enter Try.func6, Try.ntmps6
  go_wp2_with fail
  refine (newO most HA.out.1 HA.out.2 w).mono ?_
  rintro x w1 ⟨c, fc, rfl, hoc, hfc, hb⟩
  have HOc := Lib.hid hoc
  have HFc := Lib.hid hfc
  clear hoc hfc
  have HBw1 := Lib.hid hb
  clear hb
  go_wp2_with fail
  refine (newO other HB.out.1 HB.out.2 w1).mono ?_
  rintro x w2 ⟨d, fd, rfl, hod, hfd, hb⟩
  have HOd := Lib.hid hod
  have HFd := Lib.hid hfd
  clear hod hfd
  have HBw2 := Lib.hid hb
  clear hb
  go_wp2_with fail
  refine (newR most HA.out.1 HA.out.2 w2).mono ?_
  rintro x w3 ⟨r, fr, rfl, hor, hfr, hb⟩
  have HOr := Lib.hid hor
  have HFr := Lib.hid hfr
  clear hor hfr
  have HBw3 := Lib.hid hb
  clear hb
  go_wp2_with fail
  refine (newR other HB.out.1 HB.out.2 w3).mono ?_
  rintro x w4 ⟨s, fs, rfl, hos, hfs, hb⟩
  have HOs := Lib.hid hos
  have HFs := Lib.hid hfs
  clear hos hfs
  have HBw4 := Lib.hid hb
  clear hb
  have HBB := Lib.hid (((HBw1.out.trans (HBw2.out.mono HBw1.out.size)).trans (HBw3.out.mono (Nat.le_trans HBw1.out.size HBw2.out.size))).trans (HBw4.out.mono (Nat.le_trans HBw1.out.size (Nat.le_trans HBw2.out.size HBw3.out.size))))
  have HSZ := Lib.hid (show w.heap.size ≤ w1.heap.size ∧ w1.heap.size ≤ w2.heap.size ∧ w2.heap.size ≤ w3.heap.size ∧ w3.heap.size ≤ w4.heap.size from ⟨HBw1.out.size, HBw2.out.size, HBw3.out.size, HBw4.out.size⟩)
  have HXc := Lib.hid (show ∀ b, fc b → w.heap.size ≤ b ∧ b < w1.heap.size from fun b h => ⟨HFc.out b h, HOc.out.lt h⟩)
  have HXr := Lib.hid (show ∀ b, fr b → w2.heap.size ≤ b ∧ b < w3.heap.size from fun b h => ⟨HFr.out b h, HOr.out.lt h⟩)
  have HLA := Lib.hid (new_live (w0 := w) (w1 := w) (w2 := w) (HOc.out.keep (w' := w4) fun b h => by have h1 := HXc.out b h; have h2 := HSZ.out; rw [HBw4.out.block b (by omega), HBw3.out.block b (by omega), HBw2.out.block b (by omega)]) (HOr.out.keep (w' := w4) HBw4.out.size fun b h => HBw4.out.block b (HXr.out b h).2) (fun b h1 h2 => by have := HXc.out b h1; have := HXr.out b h2; have := HSZ.out; omega) HA.out.1)
  have HXd := Lib.hid (show ∀ b, fd b → w1.heap.size ≤ b ∧ b < w2.heap.size from fun b h => ⟨HFd.out b h, HOd.out.lt h⟩)
  have HXs := Lib.hid (show ∀ b, fs b → w3.heap.size ≤ b ∧ b < w4.heap.size from fun b h => ⟨HFs.out b h, HOs.out.lt h⟩)
  have HLB := Lib.hid (new_live (w0 := w) (w1 := w) (w2 := w) (HOd.out.keep (w' := w4) fun b h => by have h1 := HXd.out b h; have h2 := HSZ.out; rw [HBw4.out.block b (by omega), HBw3.out.block b (by omega)]) HOs.out (fun b h1 h2 => by have := HXd.out b h1; have := HXs.out b h2; have := HSZ.out; omega) HB.out.1)
  have HDI := Lib.hid (show ∀ b, (fc b ∨ fr b) → ¬ (fd b ∨ fs b) from fun b h1 h2 => by
    have h3 := HSZ.out
    rcases h1 with h1 | h1 <;> rcases h2 with h2 | h2
    · have := HXc.out b h1; have := HXd.out b h2; omega
    · have := HXc.out b h1; have := HXs.out b h2; omega
    · have := HXr.out b h1; have := HXd.out b h2; omega
    · have := HXr.out b h1; have := HXs.out b h2; omega)
  have HGA := Lib.hid (show ∀ b, (fc b ∨ fr b) → w.heap.size ≤ b from fun b h => by have := HSZ.out; rcases h with h | h; exact (HXc.out b h).1; have := HXr.out b h; omega)
  have HGB := Lib.hid (show ∀ b, (fd b ∨ fs b) → w.heap.size ≤ b from fun b h => by have := HSZ.out; rcases h with h | h; have := HXd.out b h; omega; have := HXs.out b h; omega)
  obtain ⟨A, cap, rfl, hcap, hlc⟩ := HV.out
  clear hlc
  clear HOc HFc HOr HFr HXc HXr HOd HFd HOs HFs HXd HXs HBw1 HBw2 HBw3 HBw4
  go_wp2
  go_loopw [11] (fun iv wr => ∃ (i : Nat) (fA : Nat → Prop) (fB : Nat → Prop), iv = .int .i64 i ∧ i ≤ os.length ∧ Hid (Live wr c r most i fA) ∧ Hid (∀ b, fA b → w.heap.size ≤ b) ∧ Hid (Live wr d s other i fB) ∧ Hid (∀ b, fB b → w.heap.size ≤ b) ∧ Hid (∀ b, fA b → ¬ fB b) ∧ Hid (Below w.heap.size w wr)) (fun iv _ => os.length - (intOf iv).toNat)
  case atStart => exact ⟨0, (fun b => fc b ∨ fr b), (fun b => fd b ∨ fs b), rfl, Nat.zero_le _, HLA, HGA, HLB, HGB, HDI, HBB⟩
  case round =>
    clear HLA HGA HLB HGB HDI HBB HSZ
    obtain ⟨i, fA, fB, rfl, hi, HLA, HGA, HLB, HGB, HDI, HBB⟩ := hrel
    by_cases hlt : i < os.length
    · obtain ⟨b, o, rfl, hbs, hcells⟩ : ∃ b o, A = some ⟨b, o, none⟩ ∧ b < w.heap.size ∧ ∀ (j : Nat) u, (os[i]).cells[j]? = some u → wr.cell? ⟨b, o + i * 3 + j, none⟩ = some u := by
        obtain ⟨A2, cap2, e1, e2, e3⟩ := HV.out
        obtain ⟨b2, o2, e4, e5, e6, e7⟩ := e3 (by omega)
        injection e1 with e1 e8 e9
        rw [e4] at e1
        exact ⟨b2, o2, e1, e5, fun j u hu => by rw [HBB.out.cell (p := ⟨b2, o2 + i * 3 + j, none⟩) e5]; exact e7 i hlt j u hu⟩
      have HCC := Lib.hid (show wr.cell? ⟨b, o + i * 3, none⟩ = some (.int .i64 os[i].kind) ∧ wr.cell? ⟨b, o + i * 3 + 1, none⟩ = some (.int .i64 os[i].k) ∧ wr.cell? ⟨b, o + i * 3 + 2, none⟩ = some (.string os[i].val) from ⟨hcells 0 _ rfl, hcells 1 _ rfl, hcells 2 _ rfl⟩)
      have HX := Lib.hid (HOS.out _ (List.getElem_mem hlt))
      obtain ⟨x, hx⟩ : ∃ x, x = os[i] := ⟨_, rfl⟩
      rw [← hx] at HCC HX
      clear hcells hx
      obtain ⟨kd, kk, val⟩ := x
      obtain ⟨c0, c1, c2⟩ := HCC.out
      clear HCC
      have HBS := Lib.hid hbs
      clear hbs
      have hmt : ((i : Int)).tmod 3 = ((i % 3 : Nat) : Int) := (Int.ofNat_tmod i 3).symm
      have hm3 : i % 3 < 3 := Nat.mod_lt _ (by decide)
      obtain ⟨x3, hx3⟩ : ∃ x3, x3 = i % 3 := ⟨_, rfl⟩
      rw [← hx3] at hmt hm3
      clear hx3
      by_cases q0 : x3 = 0
      · subst q0
        have hm0 : ((i : Int)).tmod 3 = 0 := hmt
        clear hmt hm3
        go_wp2_with fail
        refine (texts_live kd kk val HLA.out (by omega) HA.out.1 HA.out.2 HX.out.1 HX.out.2.1).mono ?_
        rintro x w5 ⟨rfl, fA', hl', ht, hf⟩
        obtain ⟨s1, s2, s3⟩ := stepB HBB.out HBB.out.size HGA.out ht hf
        have HLB' := Lib.hid (HLB.out.keep (w' := w5) ht.size fun b hb => ht.block b (HLB.out.lt hb) (fun h => HDI.out b h hb))
        have HDI' := Lib.hid (show ∀ b, fA' b → ¬ fB b from fun b h1 h2 => (hf b h1).elim (fun h => HDI.out b h h2) (fun h => by have := HLB.out.lt h2; omega))
        have d0 : w5.cell? ⟨b, o + i * 3, none⟩ = some (.int .i64 kd) := by rw [ht.cell (p := ⟨b, o + i * 3, none⟩) (Nat.lt_of_lt_of_le HBS.out HBB.out.size) (fun h => by have := HGA.out b h; have := HBS.out; omega)]; exact c0
        have d1 : w5.cell? ⟨b, o + i * 3 + 1, none⟩ = some (.int .i64 kk) := by rw [ht.cell (p := ⟨b, o + i * 3 + 1, none⟩) (Nat.lt_of_lt_of_le HBS.out HBB.out.size) (fun h => by have := HGA.out b h; have := HBS.out; omega)]; exact c1
        have d2 : w5.cell? ⟨b, o + i * 3 + 2, none⟩ = some (.string val) := by rw [ht.cell (p := ⟨b, o + i * 3 + 2, none⟩) (Nat.lt_of_lt_of_le HBS.out HBB.out.size) (fun h => by have := HGA.out b h; have := HBS.out; omega)]; exact c2
        have HLA' := Lib.hid hl'
        have HGA' := Lib.hid s2
        have HBB' := Lib.hid s1
        clear hl' ht hf s1 s2 s3 c0 c1 c2 HBB HGA HLA HLB HDI
        have HLA := HLA'
        have HGA := HGA'
        have HBB := HBB'
        have HLB := HLB'
        have HDI := HDI'
        clear HLA' HGA' HBB' HLB' HDI'
        obtain ⟨fA, hfe⟩ : ∃ f, f = fA' := ⟨_, rfl⟩
        rw [← hfe] at HLA HGA HDI
        clear hfe
        obtain ⟨c0, c1, c2⟩ := (⟨d0, d1, d2⟩ : _ ∧ _ ∧ _)
        clear d0 d1 d2
        go_wp2_with fail
        refine (texts_live kd kk val HLB.out (by omega) HB.out.1 HB.out.2 HX.out.1 HX.out.2.1).mono ?_
        rintro x w6 ⟨rfl, fB', hl', ht, hf⟩
        obtain ⟨s1, s2, s3⟩ := stepB HBB.out HBB.out.size HGB.out ht hf
        have HLA' := Lib.hid (HLA.out.keep (w' := w6) ht.size fun b hb => ht.block b (HLA.out.lt hb) (fun h => HDI.out b hb h))
        have HDI' := Lib.hid (show ∀ b, fA b → ¬ fB' b from fun b h1 h2 => (hf b h2).elim (fun h => HDI.out b h1 h) (fun h => by have := HLA.out.lt h1; omega))
        have d0 : w6.cell? ⟨b, o + i * 3, none⟩ = some (.int .i64 kd) := by rw [ht.cell (p := ⟨b, o + i * 3, none⟩) (Nat.lt_of_lt_of_le HBS.out HBB.out.size) (fun h => by have := HGB.out b h; have := HBS.out; omega)]; exact c0
        have d1 : w6.cell? ⟨b, o + i * 3 + 1, none⟩ = some (.int .i64 kk) := by rw [ht.cell (p := ⟨b, o + i * 3 + 1, none⟩) (Nat.lt_of_lt_of_le HBS.out HBB.out.size) (fun h => by have := HGB.out b h; have := HBS.out; omega)]; exact c1
        have d2 : w6.cell? ⟨b, o + i * 3 + 2, none⟩ = some (.string val) := by rw [ht.cell (p := ⟨b, o + i * 3 + 2, none⟩) (Nat.lt_of_lt_of_le HBS.out HBB.out.size) (fun h => by have := HGB.out b h; have := HBS.out; omega)]; exact c2
        have HLB' := Lib.hid hl'
        have HGB' := Lib.hid s2
        have HBB' := Lib.hid s1
        clear hl' ht hf s1 s2 s3 c0 c1 c2 HBB HGB HLB HLA HDI
        have HLB := HLB'
        have HGB := HGB'
        have HBB := HBB'
        have HLA := HLA'
        have HDI := HDI'
        clear HLB' HGB' HBB' HLA' HDI'
        obtain ⟨fB, hfe⟩ : ∃ f, f = fB' := ⟨_, rfl⟩
        rw [← hfe] at HLB HGB HDI
        clear hfe
        obtain ⟨c0, c1, c2⟩ := (⟨d0, d1, d2⟩ : _ ∧ _ ∧ _)
        clear d0 d1 d2
        go_wp2
        exact ⟨⟨i + 1, fA, fB, by go_num, by omega, (Lib.hid (HLA.out.mono (by omega))), HGA, (Lib.hid (HLB.out.mono (by omega))), HGB, HDI, HBB⟩, by simp [intOf]; omega⟩
      by_cases q1 : x3 = 1
      · subst q1
        clear q0
        have hm0 : ((i : Int)).tmod 3 = 1 := hmt
        clear hmt hm3
        go_wp2_with fail
        refine (texts_live kd kk val HLA.out (by omega) HA.out.1 HA.out.2 HX.out.1 HX.out.2.1).mono ?_
        rintro x w5 ⟨rfl, fA', hl', ht, hf⟩
        obtain ⟨s1, s2, s3⟩ := stepB HBB.out HBB.out.size HGA.out ht hf
        have HLB' := Lib.hid (HLB.out.keep (w' := w5) ht.size fun b hb => ht.block b (HLB.out.lt hb) (fun h => HDI.out b h hb))
        have HDI' := Lib.hid (show ∀ b, fA' b → ¬ fB b from fun b h1 h2 => (hf b h1).elim (fun h => HDI.out b h h2) (fun h => by have := HLB.out.lt h2; omega))
        have d0 : w5.cell? ⟨b, o + i * 3, none⟩ = some (.int .i64 kd) := by rw [ht.cell (p := ⟨b, o + i * 3, none⟩) (Nat.lt_of_lt_of_le HBS.out HBB.out.size) (fun h => by have := HGA.out b h; have := HBS.out; omega)]; exact c0
        have d1 : w5.cell? ⟨b, o + i * 3 + 1, none⟩ = some (.int .i64 kk) := by rw [ht.cell (p := ⟨b, o + i * 3 + 1, none⟩) (Nat.lt_of_lt_of_le HBS.out HBB.out.size) (fun h => by have := HGA.out b h; have := HBS.out; omega)]; exact c1
        have d2 : w5.cell? ⟨b, o + i * 3 + 2, none⟩ = some (.string val) := by rw [ht.cell (p := ⟨b, o + i * 3 + 2, none⟩) (Nat.lt_of_lt_of_le HBS.out HBB.out.size) (fun h => by have := HGA.out b h; have := HBS.out; omega)]; exact c2
        have HLA' := Lib.hid hl'
        have HGA' := Lib.hid s2
        have HBB' := Lib.hid s1
        clear hl' ht hf s1 s2 s3 c0 c1 c2 HBB HGA HLA HLB HDI
        have HLA := HLA'
        have HGA := HGA'
        have HBB := HBB'
        have HLB := HLB'
        have HDI := HDI'
        clear HLA' HGA' HBB' HLB' HDI'
        obtain ⟨fA, hfe⟩ : ∃ f, f = fA' := ⟨_, rfl⟩
        rw [← hfe] at HLA HGA HDI
        clear hfe
        obtain ⟨c0, c1, c2⟩ := (⟨d0, d1, d2⟩ : _ ∧ _ ∧ _)
        clear d0 d1 d2
        go_wp2
        exact ⟨⟨i + 1, fA, fB, by go_num, by omega, (Lib.hid (HLA.out.mono (by omega))), HGA, (Lib.hid (HLB.out.mono (by omega))), HGB, HDI, HBB⟩, by simp [intOf]; omega⟩
      by_cases q2 : x3 = 2
      · subst q2
        clear q0 q1
        have hm0 : ((i : Int)).tmod 3 = 2 := hmt
        clear hmt hm3
        go_wp2_with fail
        refine (texts_live kd kk val HLB.out (by omega) HB.out.1 HB.out.2 HX.out.1 HX.out.2.1).mono ?_
        rintro x w5 ⟨rfl, fB', hl', ht, hf⟩
        obtain ⟨s1, s2, s3⟩ := stepB HBB.out HBB.out.size HGB.out ht hf
        have HLA' := Lib.hid (HLA.out.keep (w' := w5) ht.size fun b hb => ht.block b (HLA.out.lt hb) (fun h => HDI.out b hb h))
        have HDI' := Lib.hid (show ∀ b, fA b → ¬ fB' b from fun b h1 h2 => (hf b h2).elim (fun h => HDI.out b h1 h) (fun h => by have := HLA.out.lt h1; omega))
        have d0 : w5.cell? ⟨b, o + i * 3, none⟩ = some (.int .i64 kd) := by rw [ht.cell (p := ⟨b, o + i * 3, none⟩) (Nat.lt_of_lt_of_le HBS.out HBB.out.size) (fun h => by have := HGB.out b h; have := HBS.out; omega)]; exact c0
        have d1 : w5.cell? ⟨b, o + i * 3 + 1, none⟩ = some (.int .i64 kk) := by rw [ht.cell (p := ⟨b, o + i * 3 + 1, none⟩) (Nat.lt_of_lt_of_le HBS.out HBB.out.size) (fun h => by have := HGB.out b h; have := HBS.out; omega)]; exact c1
        have d2 : w5.cell? ⟨b, o + i * 3 + 2, none⟩ = some (.string val) := by rw [ht.cell (p := ⟨b, o + i * 3 + 2, none⟩) (Nat.lt_of_lt_of_le HBS.out HBB.out.size) (fun h => by have := HGB.out b h; have := HBS.out; omega)]; exact c2
        have HLB' := Lib.hid hl'
        have HGB' := Lib.hid s2
        have HBB' := Lib.hid s1
        clear hl' ht hf s1 s2 s3 c0 c1 c2 HBB HGB HLB HLA HDI
        have HLB := HLB'
        have HGB := HGB'
        have HBB := HBB'
        have HLA := HLA'
        have HDI := HDI'
        clear HLB' HGB' HBB' HLA' HDI'
        obtain ⟨fB, hfe⟩ : ∃ f, f = fB' := ⟨_, rfl⟩
        rw [← hfe] at HLB HGB HDI
        clear hfe
        obtain ⟨c0, c1, c2⟩ := (⟨d0, d1, d2⟩ : _ ∧ _ ∧ _)
        clear d0 d1 d2
        go_wp2
        exact ⟨⟨i + 1, fA, fB, by go_num, by omega, (Lib.hid (HLA.out.mono (by omega))), HGA, (Lib.hid (HLB.out.mono (by omega))), HGB, HDI, HBB⟩, by simp [intOf]; omega⟩
      · omega
    · obtain rfl : i = os.length := by omega
      clear hlt hi HV HOS
      obtain ⟨I, hI⟩ : ∃ I, I = os.length := ⟨_, rfl⟩
      have HI := Lib.hid (show I ≤ 2000000 by omega)
      have HLA := Lib.hid (show Live wr c r most (I + 0) fA by rw [hI]; exact HLA.out)
      have HLB := Lib.hid (show Live wr d s other (I + 0) fB by rw [hI]; exact HLB.out)
      clear hI
      go_wp2
      go_loopw [14] (fun iv wr2 => ∃ (k : Nat) (fA : Nat → Prop) (fB : Nat → Prop), iv = .int .i64 k ∧ 6 ≤ k ∧ k ≤ 9 ∧ Hid (Live wr2 c r most (I + (k - 6)) fA) ∧ Hid (∀ b, fA b → w.heap.size ≤ b) ∧ Hid (Live wr2 d s other (I + (k - 6)) fB) ∧ Hid (∀ b, fB b → w.heap.size ≤ b) ∧ Hid (∀ b, fA b → ¬ fB b) ∧ Hid (Below w.heap.size w wr2)) (fun iv _ => 9 - (intOf iv).toNat)
      case atStart => exact ⟨6, fA, fB, rfl, by omega, by omega, HLA, HGA, HLB, HGB, HDI, HBB⟩
      case round =>
        clear HLA HGA HLB HGB HDI HBB
        obtain ⟨k, fA, fB, rfl, hk6, hk9, HLA, HGA, HLB, HGB, HDI, HBB⟩ := hrel
        by_cases h8 : k ≤ 8
        · have t8 : decide ((k : Int) ≤ 8) = true := decide_eq_true (by omega)
          have HI6 := Lib.hid (And.intro hk6 hk9)
          go_wp2_with fail
          refine (texts_live k 0 ⟨#[]⟩ HLA.out (by have := HI.out; omega) HA.out.1 HA.out.2 ⟨by omega, by omega⟩ ⟨by decide, by decide⟩).mono ?_
          rintro x w8 ⟨rfl, fA', hl', ht, hf⟩
          obtain ⟨s1, s2, s3⟩ := stepB HBB.out HBB.out.size HGA.out ht hf
          have HLB' := Lib.hid (HLB.out.keep (w' := w8) ht.size fun b hb => ht.block b (HLB.out.lt hb) (fun h => HDI.out b h hb))
          have HDI' := Lib.hid (show ∀ b, fA' b → ¬ fB b from fun b h1 h2 => (hf b h1).elim (fun h => HDI.out b h h2) (fun h => by have := HLB.out.lt h2; omega))
          have HLA' := Lib.hid hl'
          have HGA' := Lib.hid s2
          have HBB' := Lib.hid s1
          clear hl' ht hf s1 s2 s3 HBB HGA HLA HLB HDI
          have HLA := HLA'
          have HGA := HGA'
          have HBB := HBB'
          have HLB := HLB'
          have HDI := HDI'
          clear HLA' HGA' HBB' HLB' HDI'
          obtain ⟨fA, hfe⟩ : ∃ f, f = fA' := ⟨_, rfl⟩
          rw [← hfe] at HLA HGA HDI
          clear hfe
          go_wp2_with fail
          refine (texts_live k 0 ⟨#[]⟩ HLB.out (by have := HI.out; omega) HB.out.1 HB.out.2 ⟨by omega, by omega⟩ ⟨by decide, by decide⟩).mono ?_
          rintro x w9 ⟨rfl, fB', hl', ht, hf⟩
          obtain ⟨s1, s2, s3⟩ := stepB HBB.out HBB.out.size HGB.out ht hf
          have HLA' := Lib.hid (HLA.out.keep (w' := w9) ht.size fun b hb => ht.block b (HLA.out.lt hb) (fun h => HDI.out b hb h))
          have HDI' := Lib.hid (show ∀ b, fA b → ¬ fB' b from fun b h1 h2 => (hf b h2).elim (fun h => HDI.out b h1 h) (fun h => by have := HLA.out.lt h1; omega))
          have HLB' := Lib.hid hl'
          have HGB' := Lib.hid s2
          have HBB' := Lib.hid s1
          clear hl' ht hf s1 s2 s3 HBB HGB HLB HLA HDI
          have HLB := HLB'
          have HGB := HGB'
          have HBB := HBB'
          have HLA := HLA'
          have HDI := HDI'
          clear HLB' HGB' HBB' HLA' HDI'
          obtain ⟨fB, hfe⟩ : ∃ f, f = fB' := ⟨_, rfl⟩
          rw [← hfe] at HLB HGB HDI
          clear hfe
          go_wp2
          exact ⟨⟨k + 1, fA, fB, by go_num, by omega, by omega, (Lib.hid (HLA.out.mono (by have := HI6.out; omega))), HGA, (Lib.hid (HLB.out.mono (by have := HI6.out; omega))), HGB, HDI, HBB⟩, by simp [intOf]; omega⟩
        · have t8 : decide ((k : Int) ≤ 8) = false := decide_eq_false (by omega)
          go_wp2
          go_ret
          exact ⟨rfl, HBB.out⟩
set_option maxHeartbeats 4000000 in
set_option maxRecDepth 100000 in
theorem script_10 (most other : Int) (os : List OpV) (v : Value) (w : World) (hv : OpsIn w v os fun _ => True) (hl : os.length ≤ 2000000) (hos : ∀ x ∈ os, OpVOk x) (ha : 0 ≤ most ∧ most ≤ 4096) (hb : other < 0 ∨ 4096 < other) :
    Calls Try.prog 6 #[.int .i64 most, .int .i64 other, v] w fun r w' => r = .returned (.bool true) ∧ Below w.heap.size w w' := by
  have HOS := Lib.hid hos
  have HV := Lib.hid hv
  have HA := Lib.hid ha
  have HB := Lib.hid hb
  clear hos hv ha hb
  go_enter Try.func6, Try.ntmps6
  go_wp2_with fail
  refine (newO most HA.out.1 HA.out.2 w).mono ?_
  rintro x w1 ⟨c, fc, rfl, hoc, hfc, hb⟩
  have HOc := Lib.hid hoc
  have HFc := Lib.hid hfc
  clear hoc hfc
  have HBw1 := Lib.hid hb
  clear hb
  go_wp2_with fail
  refine (newS_no' other HB.out w1).mono ?_
  rintro x w2 ⟨rfl, hb⟩
  have HBw2 := Lib.hid hb
  clear hb
  go_wp2_with fail
  refine (newR most HA.out.1 HA.out.2 w2).mono ?_
  rintro x w3 ⟨r, fr, rfl, hor, hfr, hb⟩
  have HOr := Lib.hid hor
  have HFr := Lib.hid hfr
  clear hor hfr
  have HBw3 := Lib.hid hb
  clear hb
  go_wp2_with fail
  refine (newR_no' other HB.out w3).mono ?_
  rintro x w4 ⟨rfl, hb⟩
  have HBw4 := Lib.hid hb
  clear hb
  have HBB := Lib.hid (((HBw1.out.trans (HBw2.out.mono HBw1.out.size)).trans (HBw3.out.mono (Nat.le_trans HBw1.out.size HBw2.out.size))).trans (HBw4.out.mono (Nat.le_trans HBw1.out.size (Nat.le_trans HBw2.out.size HBw3.out.size))))
  have HSZ := Lib.hid (show w.heap.size ≤ w1.heap.size ∧ w1.heap.size ≤ w2.heap.size ∧ w2.heap.size ≤ w3.heap.size ∧ w3.heap.size ≤ w4.heap.size from ⟨HBw1.out.size, HBw2.out.size, HBw3.out.size, HBw4.out.size⟩)
  have HXc := Lib.hid (show ∀ b, fc b → w.heap.size ≤ b ∧ b < w1.heap.size from fun b h => ⟨HFc.out b h, HOc.out.lt h⟩)
  have HXr := Lib.hid (show ∀ b, fr b → w2.heap.size ≤ b ∧ b < w3.heap.size from fun b h => ⟨HFr.out b h, HOr.out.lt h⟩)
  have HLA := Lib.hid (new_live (w0 := w) (w1 := w) (w2 := w) (HOc.out.keep (w' := w4) fun b h => by have h1 := HXc.out b h; have h2 := HSZ.out; rw [HBw4.out.block b (by omega), HBw3.out.block b (by omega), HBw2.out.block b (by omega)]) (HOr.out.keep (w' := w4) HBw4.out.size fun b h => HBw4.out.block b (HXr.out b h).2) (fun b h1 h2 => by have := HXc.out b h1; have := HXr.out b h2; have := HSZ.out; omega) HA.out.1)
  have HGA := Lib.hid (show ∀ b, (fc b ∨ fr b) → w.heap.size ≤ b from fun b h => by have := HSZ.out; rcases h with h | h; exact (HXc.out b h).1; have := HXr.out b h; omega)
  obtain ⟨A, cap, rfl, hcap, hlc⟩ := HV.out
  clear hlc
  clear HOc HFc HOr HFr HXc HXr HBw1 HBw2 HBw3 HBw4
  go_wp2
  go_loopw [11] (fun iv wr => ∃ (i : Nat) (fA : Nat → Prop), iv = .int .i64 i ∧ i ≤ os.length ∧ Hid (Live wr c r most i fA) ∧ Hid (∀ b, fA b → w.heap.size ≤ b) ∧ Hid (Below w.heap.size w wr)) (fun iv _ => os.length - (intOf iv).toNat)
  case atStart => exact ⟨0, (fun b => fc b ∨ fr b), rfl, Nat.zero_le _, HLA, HGA, HBB⟩
  case round =>
    clear HLA HGA HBB HSZ
    obtain ⟨i, fA, rfl, hi, HLA, HGA, HBB⟩ := hrel
    by_cases hlt : i < os.length
    · obtain ⟨b, o, rfl, hbs, hcells⟩ : ∃ b o, A = some ⟨b, o, none⟩ ∧ b < w.heap.size ∧ ∀ (j : Nat) u, (os[i]).cells[j]? = some u → wr.cell? ⟨b, o + i * 3 + j, none⟩ = some u := by
        obtain ⟨A2, cap2, e1, e2, e3⟩ := HV.out
        obtain ⟨b2, o2, e4, e5, e6, e7⟩ := e3 (by omega)
        injection e1 with e1 e8 e9
        rw [e4] at e1
        exact ⟨b2, o2, e1, e5, fun j u hu => by rw [HBB.out.cell (p := ⟨b2, o2 + i * 3 + j, none⟩) e5]; exact e7 i hlt j u hu⟩
      have HCC := Lib.hid (show wr.cell? ⟨b, o + i * 3, none⟩ = some (.int .i64 os[i].kind) ∧ wr.cell? ⟨b, o + i * 3 + 1, none⟩ = some (.int .i64 os[i].k) ∧ wr.cell? ⟨b, o + i * 3 + 2, none⟩ = some (.string os[i].val) from ⟨hcells 0 _ rfl, hcells 1 _ rfl, hcells 2 _ rfl⟩)
      have HX := Lib.hid (HOS.out _ (List.getElem_mem hlt))
      obtain ⟨x, hx⟩ : ∃ x, x = os[i] := ⟨_, rfl⟩
      rw [← hx] at HCC HX
      clear hcells hx
      obtain ⟨kd, kk, val⟩ := x
      obtain ⟨c0, c1, c2⟩ := HCC.out
      clear HCC
      have HBS := Lib.hid hbs
      clear hbs
      have hmt : ((i : Int)).tmod 3 = ((i % 3 : Nat) : Int) := (Int.ofNat_tmod i 3).symm
      have hm3 : i % 3 < 3 := Nat.mod_lt _ (by decide)
      obtain ⟨x3, hx3⟩ : ∃ x3, x3 = i % 3 := ⟨_, rfl⟩
      rw [← hx3] at hmt hm3
      clear hx3
      by_cases q0 : x3 = 0
      · subst q0
        have hm0 : ((i : Int)).tmod 3 = 0 := hmt
        clear hmt hm3
        go_wp2_with fail
        refine (texts_live kd kk val HLA.out (by omega) HA.out.1 HA.out.2 HX.out.1 HX.out.2.1).mono ?_
        rintro x w5 ⟨rfl, fA', hl', ht, hf⟩
        obtain ⟨s1, s2, s3⟩ := stepB HBB.out HBB.out.size HGA.out ht hf
        have d0 : w5.cell? ⟨b, o + i * 3, none⟩ = some (.int .i64 kd) := by rw [ht.cell (p := ⟨b, o + i * 3, none⟩) (Nat.lt_of_lt_of_le HBS.out HBB.out.size) (fun h => by have := HGA.out b h; have := HBS.out; omega)]; exact c0
        have d1 : w5.cell? ⟨b, o + i * 3 + 1, none⟩ = some (.int .i64 kk) := by rw [ht.cell (p := ⟨b, o + i * 3 + 1, none⟩) (Nat.lt_of_lt_of_le HBS.out HBB.out.size) (fun h => by have := HGA.out b h; have := HBS.out; omega)]; exact c1
        have d2 : w5.cell? ⟨b, o + i * 3 + 2, none⟩ = some (.string val) := by rw [ht.cell (p := ⟨b, o + i * 3 + 2, none⟩) (Nat.lt_of_lt_of_le HBS.out HBB.out.size) (fun h => by have := HGA.out b h; have := HBS.out; omega)]; exact c2
        have HLA' := Lib.hid hl'
        have HGA' := Lib.hid s2
        have HBB' := Lib.hid s1
        clear hl' ht hf s1 s2 s3 c0 c1 c2 HBB HGA HLA
        have HLA := HLA'
        have HGA := HGA'
        have HBB := HBB'
        clear HLA' HGA' HBB'
        obtain ⟨fA, hfe⟩ : ∃ f, f = fA' := ⟨_, rfl⟩
        rw [← hfe] at HLA HGA
        clear hfe
        obtain ⟨c0, c1, c2⟩ := (⟨d0, d1, d2⟩ : _ ∧ _ ∧ _)
        clear d0 d1 d2
        go_wp2
        exact ⟨⟨i + 1, fA, by go_num, by omega, (Lib.hid (HLA.out.mono (by omega))), HGA, HBB⟩, by simp [intOf]; omega⟩
      by_cases q1 : x3 = 1
      · subst q1
        clear q0
        have hm0 : ((i : Int)).tmod 3 = 1 := hmt
        clear hmt hm3
        go_wp2_with fail
        refine (texts_live kd kk val HLA.out (by omega) HA.out.1 HA.out.2 HX.out.1 HX.out.2.1).mono ?_
        rintro x w5 ⟨rfl, fA', hl', ht, hf⟩
        obtain ⟨s1, s2, s3⟩ := stepB HBB.out HBB.out.size HGA.out ht hf
        have d0 : w5.cell? ⟨b, o + i * 3, none⟩ = some (.int .i64 kd) := by rw [ht.cell (p := ⟨b, o + i * 3, none⟩) (Nat.lt_of_lt_of_le HBS.out HBB.out.size) (fun h => by have := HGA.out b h; have := HBS.out; omega)]; exact c0
        have d1 : w5.cell? ⟨b, o + i * 3 + 1, none⟩ = some (.int .i64 kk) := by rw [ht.cell (p := ⟨b, o + i * 3 + 1, none⟩) (Nat.lt_of_lt_of_le HBS.out HBB.out.size) (fun h => by have := HGA.out b h; have := HBS.out; omega)]; exact c1
        have d2 : w5.cell? ⟨b, o + i * 3 + 2, none⟩ = some (.string val) := by rw [ht.cell (p := ⟨b, o + i * 3 + 2, none⟩) (Nat.lt_of_lt_of_le HBS.out HBB.out.size) (fun h => by have := HGA.out b h; have := HBS.out; omega)]; exact c2
        have HLA' := Lib.hid hl'
        have HGA' := Lib.hid s2
        have HBB' := Lib.hid s1
        clear hl' ht hf s1 s2 s3 c0 c1 c2 HBB HGA HLA
        have HLA := HLA'
        have HGA := HGA'
        have HBB := HBB'
        clear HLA' HGA' HBB'
        obtain ⟨fA, hfe⟩ : ∃ f, f = fA' := ⟨_, rfl⟩
        rw [← hfe] at HLA HGA
        clear hfe
        obtain ⟨c0, c1, c2⟩ := (⟨d0, d1, d2⟩ : _ ∧ _ ∧ _)
        clear d0 d1 d2
        go_wp2
        exact ⟨⟨i + 1, fA, by go_num, by omega, (Lib.hid (HLA.out.mono (by omega))), HGA, HBB⟩, by simp [intOf]; omega⟩
      by_cases q2 : x3 = 2
      · subst q2
        clear q0 q1
        have hm0 : ((i : Int)).tmod 3 = 2 := hmt
        clear hmt hm3
        go_wp2
        exact ⟨⟨i + 1, fA, by go_num, by omega, (Lib.hid (HLA.out.mono (by omega))), HGA, HBB⟩, by simp [intOf]; omega⟩
      · omega
    · obtain rfl : i = os.length := by omega
      clear hlt hi HV HOS
      obtain ⟨I, hI⟩ : ∃ I, I = os.length := ⟨_, rfl⟩
      have HI := Lib.hid (show I ≤ 2000000 by omega)
      have HLA := Lib.hid (show Live wr c r most (I + 0) fA by rw [hI]; exact HLA.out)
      clear hI
      go_wp2
      go_loopw [14] (fun iv wr2 => ∃ (k : Nat) (fA : Nat → Prop), iv = .int .i64 k ∧ 6 ≤ k ∧ k ≤ 9 ∧ Hid (Live wr2 c r most (I + (k - 6)) fA) ∧ Hid (∀ b, fA b → w.heap.size ≤ b) ∧ Hid (Below w.heap.size w wr2)) (fun iv _ => 9 - (intOf iv).toNat)
      case atStart => exact ⟨6, fA, rfl, by omega, by omega, HLA, HGA, HBB⟩
      case round =>
        clear HLA HGA HBB
        obtain ⟨k, fA, rfl, hk6, hk9, HLA, HGA, HBB⟩ := hrel
        by_cases h8 : k ≤ 8
        · have t8 : decide ((k : Int) ≤ 8) = true := decide_eq_true (by omega)
          have HI6 := Lib.hid (And.intro hk6 hk9)
          go_wp2_with fail
          refine (texts_live k 0 ⟨#[]⟩ HLA.out (by have := HI.out; omega) HA.out.1 HA.out.2 ⟨by omega, by omega⟩ ⟨by decide, by decide⟩).mono ?_
          rintro x w8 ⟨rfl, fA', hl', ht, hf⟩
          obtain ⟨s1, s2, s3⟩ := stepB HBB.out HBB.out.size HGA.out ht hf
          have HLA' := Lib.hid hl'
          have HGA' := Lib.hid s2
          have HBB' := Lib.hid s1
          clear hl' ht hf s1 s2 s3 HBB HGA HLA
          have HLA := HLA'
          have HGA := HGA'
          have HBB := HBB'
          clear HLA' HGA' HBB'
          obtain ⟨fA, hfe⟩ : ∃ f, f = fA' := ⟨_, rfl⟩
          rw [← hfe] at HLA HGA
          clear hfe
          go_wp2
          exact ⟨⟨k + 1, fA, by go_num, by omega, by omega, (Lib.hid (HLA.out.mono (by have := HI6.out; omega))), HGA, HBB⟩, by simp [intOf]; omega⟩
        · have t8 : decide ((k : Int) ≤ 8) = false := decide_eq_false (by omega)
          go_wp2
          go_ret
          exact ⟨rfl, HBB.out⟩
set_option maxHeartbeats 4000000 in
set_option maxRecDepth 100000 in
theorem script_01 (most other : Int) (os : List OpV) (v : Value) (w : World) (hv : OpsIn w v os fun _ => True) (hl : os.length ≤ 2000000) (hos : ∀ x ∈ os, OpVOk x) (ha : most < 0 ∨ 4096 < most) (hb : 0 ≤ other ∧ other ≤ 4096) :
    Calls Try.prog 6 #[.int .i64 most, .int .i64 other, v] w fun r w' => r = .returned (.bool true) ∧ Below w.heap.size w w' := by
  have HOS := Lib.hid hos
  have HV := Lib.hid hv
  have HA := Lib.hid ha
  have HB := Lib.hid hb
  clear hos hv ha hb
  go_enter Try.func6, Try.ntmps6
  go_wp2_with fail
  refine (newS_no' most HA.out w).mono ?_
  rintro x w1 ⟨rfl, hb⟩
  have HBw1 := Lib.hid hb
  clear hb
  go_wp2_with fail
  refine (newO other HB.out.1 HB.out.2 w1).mono ?_
  rintro x w2 ⟨d, fd, rfl, hod, hfd, hb⟩
  have HOd := Lib.hid hod
  have HFd := Lib.hid hfd
  clear hod hfd
  have HBw2 := Lib.hid hb
  clear hb
  go_wp2_with fail
  refine (newR_no' most HA.out w2).mono ?_
  rintro x w3 ⟨rfl, hb⟩
  have HBw3 := Lib.hid hb
  clear hb
  go_wp2_with fail
  refine (newR other HB.out.1 HB.out.2 w3).mono ?_
  rintro x w4 ⟨s, fs, rfl, hos, hfs, hb⟩
  have HOs := Lib.hid hos
  have HFs := Lib.hid hfs
  clear hos hfs
  have HBw4 := Lib.hid hb
  clear hb
  have HBB := Lib.hid (((HBw1.out.trans (HBw2.out.mono HBw1.out.size)).trans (HBw3.out.mono (Nat.le_trans HBw1.out.size HBw2.out.size))).trans (HBw4.out.mono (Nat.le_trans HBw1.out.size (Nat.le_trans HBw2.out.size HBw3.out.size))))
  have HSZ := Lib.hid (show w.heap.size ≤ w1.heap.size ∧ w1.heap.size ≤ w2.heap.size ∧ w2.heap.size ≤ w3.heap.size ∧ w3.heap.size ≤ w4.heap.size from ⟨HBw1.out.size, HBw2.out.size, HBw3.out.size, HBw4.out.size⟩)
  have HXd := Lib.hid (show ∀ b, fd b → w1.heap.size ≤ b ∧ b < w2.heap.size from fun b h => ⟨HFd.out b h, HOd.out.lt h⟩)
  have HXs := Lib.hid (show ∀ b, fs b → w3.heap.size ≤ b ∧ b < w4.heap.size from fun b h => ⟨HFs.out b h, HOs.out.lt h⟩)
  have HLB := Lib.hid (new_live (w0 := w) (w1 := w) (w2 := w) (HOd.out.keep (w' := w4) fun b h => by have h1 := HXd.out b h; have h2 := HSZ.out; rw [HBw4.out.block b (by omega), HBw3.out.block b (by omega)]) HOs.out (fun b h1 h2 => by have := HXd.out b h1; have := HXs.out b h2; have := HSZ.out; omega) HB.out.1)
  have HGB := Lib.hid (show ∀ b, (fd b ∨ fs b) → w.heap.size ≤ b from fun b h => by have := HSZ.out; rcases h with h | h; have := HXd.out b h; omega; have := HXs.out b h; omega)
  obtain ⟨A, cap, rfl, hcap, hlc⟩ := HV.out
  clear hlc
  clear HOd HFd HOs HFs HXd HXs HBw1 HBw2 HBw3 HBw4
  go_wp2
  go_loopw [11] (fun iv wr => ∃ (i : Nat) (fB : Nat → Prop), iv = .int .i64 i ∧ i ≤ os.length ∧ Hid (Live wr d s other i fB) ∧ Hid (∀ b, fB b → w.heap.size ≤ b) ∧ Hid (Below w.heap.size w wr)) (fun iv _ => os.length - (intOf iv).toNat)
  case atStart => exact ⟨0, (fun b => fd b ∨ fs b), rfl, Nat.zero_le _, HLB, HGB, HBB⟩
  case round =>
    clear HLB HGB HBB HSZ
    obtain ⟨i, fB, rfl, hi, HLB, HGB, HBB⟩ := hrel
    by_cases hlt : i < os.length
    · obtain ⟨b, o, rfl, hbs, hcells⟩ : ∃ b o, A = some ⟨b, o, none⟩ ∧ b < w.heap.size ∧ ∀ (j : Nat) u, (os[i]).cells[j]? = some u → wr.cell? ⟨b, o + i * 3 + j, none⟩ = some u := by
        obtain ⟨A2, cap2, e1, e2, e3⟩ := HV.out
        obtain ⟨b2, o2, e4, e5, e6, e7⟩ := e3 (by omega)
        injection e1 with e1 e8 e9
        rw [e4] at e1
        exact ⟨b2, o2, e1, e5, fun j u hu => by rw [HBB.out.cell (p := ⟨b2, o2 + i * 3 + j, none⟩) e5]; exact e7 i hlt j u hu⟩
      have HCC := Lib.hid (show wr.cell? ⟨b, o + i * 3, none⟩ = some (.int .i64 os[i].kind) ∧ wr.cell? ⟨b, o + i * 3 + 1, none⟩ = some (.int .i64 os[i].k) ∧ wr.cell? ⟨b, o + i * 3 + 2, none⟩ = some (.string os[i].val) from ⟨hcells 0 _ rfl, hcells 1 _ rfl, hcells 2 _ rfl⟩)
      have HX := Lib.hid (HOS.out _ (List.getElem_mem hlt))
      obtain ⟨x, hx⟩ : ∃ x, x = os[i] := ⟨_, rfl⟩
      rw [← hx] at HCC HX
      clear hcells hx
      obtain ⟨kd, kk, val⟩ := x
      obtain ⟨c0, c1, c2⟩ := HCC.out
      clear HCC
      have HBS := Lib.hid hbs
      clear hbs
      have hmt : ((i : Int)).tmod 3 = ((i % 3 : Nat) : Int) := (Int.ofNat_tmod i 3).symm
      have hm3 : i % 3 < 3 := Nat.mod_lt _ (by decide)
      obtain ⟨x3, hx3⟩ : ∃ x3, x3 = i % 3 := ⟨_, rfl⟩
      rw [← hx3] at hmt hm3
      clear hx3
      by_cases q0 : x3 = 0
      · subst q0
        have hm0 : ((i : Int)).tmod 3 = 0 := hmt
        clear hmt hm3
        go_wp2_with fail
        refine (texts_live kd kk val HLB.out (by omega) HB.out.1 HB.out.2 HX.out.1 HX.out.2.1).mono ?_
        rintro x w5 ⟨rfl, fB', hl', ht, hf⟩
        obtain ⟨s1, s2, s3⟩ := stepB HBB.out HBB.out.size HGB.out ht hf
        have d0 : w5.cell? ⟨b, o + i * 3, none⟩ = some (.int .i64 kd) := by rw [ht.cell (p := ⟨b, o + i * 3, none⟩) (Nat.lt_of_lt_of_le HBS.out HBB.out.size) (fun h => by have := HGB.out b h; have := HBS.out; omega)]; exact c0
        have d1 : w5.cell? ⟨b, o + i * 3 + 1, none⟩ = some (.int .i64 kk) := by rw [ht.cell (p := ⟨b, o + i * 3 + 1, none⟩) (Nat.lt_of_lt_of_le HBS.out HBB.out.size) (fun h => by have := HGB.out b h; have := HBS.out; omega)]; exact c1
        have d2 : w5.cell? ⟨b, o + i * 3 + 2, none⟩ = some (.string val) := by rw [ht.cell (p := ⟨b, o + i * 3 + 2, none⟩) (Nat.lt_of_lt_of_le HBS.out HBB.out.size) (fun h => by have := HGB.out b h; have := HBS.out; omega)]; exact c2
        have HLB' := Lib.hid hl'
        have HGB' := Lib.hid s2
        have HBB' := Lib.hid s1
        clear hl' ht hf s1 s2 s3 c0 c1 c2 HBB HGB HLB
        have HLB := HLB'
        have HGB := HGB'
        have HBB := HBB'
        clear HLB' HGB' HBB'
        obtain ⟨fB, hfe⟩ : ∃ f, f = fB' := ⟨_, rfl⟩
        rw [← hfe] at HLB HGB
        clear hfe
        obtain ⟨c0, c1, c2⟩ := (⟨d0, d1, d2⟩ : _ ∧ _ ∧ _)
        clear d0 d1 d2
        go_wp2
        exact ⟨⟨i + 1, fB, by go_num, by omega, (Lib.hid (HLB.out.mono (by omega))), HGB, HBB⟩, by simp [intOf]; omega⟩
      by_cases q1 : x3 = 1
      · subst q1
        clear q0
        have hm0 : ((i : Int)).tmod 3 = 1 := hmt
        clear hmt hm3
        go_wp2
        exact ⟨⟨i + 1, fB, by go_num, by omega, (Lib.hid (HLB.out.mono (by omega))), HGB, HBB⟩, by simp [intOf]; omega⟩
      by_cases q2 : x3 = 2
      · subst q2
        clear q0 q1
        have hm0 : ((i : Int)).tmod 3 = 2 := hmt
        clear hmt hm3
        go_wp2_with fail
        refine (texts_live kd kk val HLB.out (by omega) HB.out.1 HB.out.2 HX.out.1 HX.out.2.1).mono ?_
        rintro x w5 ⟨rfl, fB', hl', ht, hf⟩
        obtain ⟨s1, s2, s3⟩ := stepB HBB.out HBB.out.size HGB.out ht hf
        have d0 : w5.cell? ⟨b, o + i * 3, none⟩ = some (.int .i64 kd) := by rw [ht.cell (p := ⟨b, o + i * 3, none⟩) (Nat.lt_of_lt_of_le HBS.out HBB.out.size) (fun h => by have := HGB.out b h; have := HBS.out; omega)]; exact c0
        have d1 : w5.cell? ⟨b, o + i * 3 + 1, none⟩ = some (.int .i64 kk) := by rw [ht.cell (p := ⟨b, o + i * 3 + 1, none⟩) (Nat.lt_of_lt_of_le HBS.out HBB.out.size) (fun h => by have := HGB.out b h; have := HBS.out; omega)]; exact c1
        have d2 : w5.cell? ⟨b, o + i * 3 + 2, none⟩ = some (.string val) := by rw [ht.cell (p := ⟨b, o + i * 3 + 2, none⟩) (Nat.lt_of_lt_of_le HBS.out HBB.out.size) (fun h => by have := HGB.out b h; have := HBS.out; omega)]; exact c2
        have HLB' := Lib.hid hl'
        have HGB' := Lib.hid s2
        have HBB' := Lib.hid s1
        clear hl' ht hf s1 s2 s3 c0 c1 c2 HBB HGB HLB
        have HLB := HLB'
        have HGB := HGB'
        have HBB := HBB'
        clear HLB' HGB' HBB'
        obtain ⟨fB, hfe⟩ : ∃ f, f = fB' := ⟨_, rfl⟩
        rw [← hfe] at HLB HGB
        clear hfe
        obtain ⟨c0, c1, c2⟩ := (⟨d0, d1, d2⟩ : _ ∧ _ ∧ _)
        clear d0 d1 d2
        go_wp2
        exact ⟨⟨i + 1, fB, by go_num, by omega, (Lib.hid (HLB.out.mono (by omega))), HGB, HBB⟩, by simp [intOf]; omega⟩
      · omega
    · obtain rfl : i = os.length := by omega
      clear hlt hi HV HOS
      obtain ⟨I, hI⟩ : ∃ I, I = os.length := ⟨_, rfl⟩
      have HI := Lib.hid (show I ≤ 2000000 by omega)
      have HLB := Lib.hid (show Live wr d s other (I + 0) fB by rw [hI]; exact HLB.out)
      clear hI
      go_wp2
      go_loopw [14] (fun iv wr2 => ∃ (k : Nat) (fB : Nat → Prop), iv = .int .i64 k ∧ 6 ≤ k ∧ k ≤ 9 ∧ Hid (Live wr2 d s other (I + (k - 6)) fB) ∧ Hid (∀ b, fB b → w.heap.size ≤ b) ∧ Hid (Below w.heap.size w wr2)) (fun iv _ => 9 - (intOf iv).toNat)
      case atStart => exact ⟨6, fB, rfl, by omega, by omega, HLB, HGB, HBB⟩
      case round =>
        clear HLB HGB HBB
        obtain ⟨k, fB, rfl, hk6, hk9, HLB, HGB, HBB⟩ := hrel
        by_cases h8 : k ≤ 8
        · have t8 : decide ((k : Int) ≤ 8) = true := decide_eq_true (by omega)
          have HI6 := Lib.hid (And.intro hk6 hk9)
          go_wp2_with fail
          refine (texts_live k 0 ⟨#[]⟩ HLB.out (by have := HI.out; omega) HB.out.1 HB.out.2 ⟨by omega, by omega⟩ ⟨by decide, by decide⟩).mono ?_
          rintro x w9 ⟨rfl, fB', hl', ht, hf⟩
          obtain ⟨s1, s2, s3⟩ := stepB HBB.out HBB.out.size HGB.out ht hf
          have HLB' := Lib.hid hl'
          have HGB' := Lib.hid s2
          have HBB' := Lib.hid s1
          clear hl' ht hf s1 s2 s3 HBB HGB HLB
          have HLB := HLB'
          have HGB := HGB'
          have HBB := HBB'
          clear HLB' HGB' HBB'
          obtain ⟨fB, hfe⟩ : ∃ f, f = fB' := ⟨_, rfl⟩
          rw [← hfe] at HLB HGB
          clear hfe
          go_wp2
          exact ⟨⟨k + 1, fB, by go_num, by omega, by omega, (Lib.hid (HLB.out.mono (by have := HI6.out; omega))), HGB, HBB⟩, by simp [intOf]; omega⟩
        · have t8 : decide ((k : Int) ≤ 8) = false := decide_eq_false (by omega)
          go_wp2
          go_ret
          exact ⟨rfl, HBB.out⟩
set_option maxHeartbeats 4000000 in
set_option maxRecDepth 100000 in
theorem script_00 (most other : Int) (os : List OpV) (v : Value) (w : World) (hv : OpsIn w v os fun _ => True) (hl : os.length ≤ 2000000) (hos : ∀ x ∈ os, OpVOk x) (ha : most < 0 ∨ 4096 < most) (hb : other < 0 ∨ 4096 < other) :
    Calls Try.prog 6 #[.int .i64 most, .int .i64 other, v] w fun r w' => r = .returned (.bool true) ∧ Below w.heap.size w w' := by
  have HOS := Lib.hid hos
  have HV := Lib.hid hv
  have HA := Lib.hid ha
  have HB := Lib.hid hb
  clear hos hv ha hb
  go_enter Try.func6, Try.ntmps6
  go_wp2_with fail
  refine (newS_no' most HA.out w).mono ?_
  rintro x w1 ⟨rfl, hb⟩
  have HBw1 := Lib.hid hb
  clear hb
  go_wp2_with fail
  refine (newS_no' other HB.out w1).mono ?_
  rintro x w2 ⟨rfl, hb⟩
  have HBw2 := Lib.hid hb
  clear hb
  go_wp2_with fail
  refine (newR_no' most HA.out w2).mono ?_
  rintro x w3 ⟨rfl, hb⟩
  have HBw3 := Lib.hid hb
  clear hb
  go_wp2_with fail
  refine (newR_no' other HB.out w3).mono ?_
  rintro x w4 ⟨rfl, hb⟩
  have HBw4 := Lib.hid hb
  clear hb
  have HBB := Lib.hid (((HBw1.out.trans (HBw2.out.mono HBw1.out.size)).trans (HBw3.out.mono (Nat.le_trans HBw1.out.size HBw2.out.size))).trans (HBw4.out.mono (Nat.le_trans HBw1.out.size (Nat.le_trans HBw2.out.size HBw3.out.size))))
  have HSZ := Lib.hid (show w.heap.size ≤ w1.heap.size ∧ w1.heap.size ≤ w2.heap.size ∧ w2.heap.size ≤ w3.heap.size ∧ w3.heap.size ≤ w4.heap.size from ⟨HBw1.out.size, HBw2.out.size, HBw3.out.size, HBw4.out.size⟩)
  obtain ⟨A, cap, rfl, hcap, hlc⟩ := HV.out
  clear hlc
  clear  HBw1 HBw2 HBw3 HBw4
  go_wp2
  go_loopw [11] (fun iv wr => ∃ (i : Nat), iv = .int .i64 i ∧ i ≤ os.length ∧ Hid (Below w.heap.size w wr)) (fun iv _ => os.length - (intOf iv).toNat)
  case atStart => exact ⟨0, rfl, Nat.zero_le _, HBB⟩
  case round =>
    clear HBB HSZ
    obtain ⟨i, rfl, hi, HBB⟩ := hrel
    by_cases hlt : i < os.length
    · obtain ⟨b, o, rfl, hbs, hcells⟩ : ∃ b o, A = some ⟨b, o, none⟩ ∧ b < w.heap.size ∧ ∀ (j : Nat) u, (os[i]).cells[j]? = some u → wr.cell? ⟨b, o + i * 3 + j, none⟩ = some u := by
        obtain ⟨A2, cap2, e1, e2, e3⟩ := HV.out
        obtain ⟨b2, o2, e4, e5, e6, e7⟩ := e3 (by omega)
        injection e1 with e1 e8 e9
        rw [e4] at e1
        exact ⟨b2, o2, e1, e5, fun j u hu => by rw [HBB.out.cell (p := ⟨b2, o2 + i * 3 + j, none⟩) e5]; exact e7 i hlt j u hu⟩
      have HCC := Lib.hid (show wr.cell? ⟨b, o + i * 3, none⟩ = some (.int .i64 os[i].kind) ∧ wr.cell? ⟨b, o + i * 3 + 1, none⟩ = some (.int .i64 os[i].k) ∧ wr.cell? ⟨b, o + i * 3 + 2, none⟩ = some (.string os[i].val) from ⟨hcells 0 _ rfl, hcells 1 _ rfl, hcells 2 _ rfl⟩)
      have HX := Lib.hid (HOS.out _ (List.getElem_mem hlt))
      obtain ⟨x, hx⟩ : ∃ x, x = os[i] := ⟨_, rfl⟩
      rw [← hx] at HCC HX
      clear hcells hx
      obtain ⟨kd, kk, val⟩ := x
      obtain ⟨c0, c1, c2⟩ := HCC.out
      clear HCC
      have HBS := Lib.hid hbs
      clear hbs
      have hmt : ((i : Int)).tmod 3 = ((i % 3 : Nat) : Int) := (Int.ofNat_tmod i 3).symm
      have hm3 : i % 3 < 3 := Nat.mod_lt _ (by decide)
      obtain ⟨x3, hx3⟩ : ∃ x3, x3 = i % 3 := ⟨_, rfl⟩
      rw [← hx3] at hmt hm3
      clear hx3
      by_cases q0 : x3 = 0
      · subst q0
        have hm0 : ((i : Int)).tmod 3 = 0 := hmt
        clear hmt hm3
        go_wp2
        exact ⟨⟨i + 1, by go_num, by omega, HBB⟩, by simp [intOf]; omega⟩
      by_cases q1 : x3 = 1
      · subst q1
        clear q0
        have hm0 : ((i : Int)).tmod 3 = 1 := hmt
        clear hmt hm3
        go_wp2
        exact ⟨⟨i + 1, by go_num, by omega, HBB⟩, by simp [intOf]; omega⟩
      by_cases q2 : x3 = 2
      · subst q2
        clear q0 q1
        have hm0 : ((i : Int)).tmod 3 = 2 := hmt
        clear hmt hm3
        go_wp2
        exact ⟨⟨i + 1, by go_num, by omega, HBB⟩, by simp [intOf]; omega⟩
      · omega
    · obtain rfl : i = os.length := by omega
      clear hlt hi HV HOS
      obtain ⟨I, hI⟩ : ∃ I, I = os.length := ⟨_, rfl⟩
      have HI := Lib.hid (show I ≤ 2000000 by omega)
      clear hI
      go_wp2
      go_loopw [14] (fun iv wr2 => ∃ (k : Nat), iv = .int .i64 k ∧ 6 ≤ k ∧ k ≤ 9 ∧ Hid (Below w.heap.size w wr2)) (fun iv _ => 9 - (intOf iv).toNat)
      case atStart => exact ⟨6, rfl, by omega, by omega, HBB⟩
      case round =>
        clear HBB
        obtain ⟨k, rfl, hk6, hk9, HBB⟩ := hrel
        by_cases h8 : k ≤ 8
        · have t8 : decide ((k : Int) ≤ 8) = true := decide_eq_true (by omega)
          have HI6 := Lib.hid (And.intro hk6 hk9)
          go_wp2
          exact ⟨⟨k + 1, by go_num, by omega, by omega, HBB⟩, by simp [intOf]; omega⟩
        · have t8 : decide ((k : Int) ≤ 8) = false := decide_eq_false (by omega)
          go_wp2
          go_ret
          exact ⟨rfl, HBB.out⟩
theorem script_calls (most other : Int) (os : List OpV) (v : Value) (w : World) (hv : OpsIn w v os fun _ => True) (hl : os.length ≤ 2000000) (hos : ∀ x ∈ os, OpVOk x) :
    Calls Try.prog 6 #[.int .i64 most, .int .i64 other, v] w fun r w' => r = .returned (.bool true) ∧ Below w.heap.size w w' := by
  by_cases ha : 0 ≤ most ∧ most ≤ 4096 <;> by_cases hb : 0 ≤ other ∧ other ≤ 4096
  · exact script_11 most other os v w hv hl hos ha hb
  · exact script_10 most other os v w hv hl hos ha (by omega)
  · exact script_01 most other os v w hv hl hos (by omega) hb
  · exact script_00 most other os v w hv hl hos (by omega) (by omega)
end Go.Proofs.Ytfkdmbiejledoaa
