import Derived.Test.YtblkehdpenfhjaaGreatDoorQ10
set_option linter.unnecessarySimpa false
set_option linter.unusedVariables false
set_option linter.unusedSimpArgs false
/-
  ShardQuiet walked.
-/
set_option linter.unusedVariables false
set_option linter.unusedSimpArgs false
namespace Go.Proofs.YtblkehdpenfhjaaGreatDoor
open Go.RowKit Go.Maps Go.ChangeMaps Go.MapKept

section
variable {w w' : World} {X Y : Nat → Prop}
set_option maxHeartbeats 16000000 in
set_option maxRecDepth 100000 in
theorem quiet_calls (x y : Int) (g : List (List ByteArray)) (hl : g.length ≤ 140737488351232) (hr : ∀ r ∈ g, r.length ≤ 140737488351232) {v1 v2 : Value} (hv : GridIn w v1 g (fun b => b < w.heap.size)) (ads : List (Int × Int)) (hal : ads.length ≤ 140737488351232) (ha : AddrIn w v2 ads (fun b => b < w.heap.size)) (hG : Glob w) :
    Calls Tryz.prog 4 #[.int .i64 x, .int .i64 y, v1, v2] w fun r w' => r = .returned (.bool true) ∧ Below w.heap.size w w' := by
  have HOP := Lib.hid (fun w' => opts_calls x y w')
  have HBS := Lib.hid (batches_calls (w := w) g hl hr hv)
  obtain ⟨A, cap, rfl, hcap, hcl⟩ := ha
  obtain ⟨n, hn⟩ : ∃ n, n = ads.length := ⟨_, rfl⟩
  have HCL := Lib.hid (show 0 < n → ∃ b o, A = some ⟨b, o, none⟩ ∧ b < w.heap.size ∧ ∀ i (h : i < ads.length), w.cell? ⟨b, o + i * 2, none⟩ = some (.int .i64 ads[i].1) ∧ w.cell? ⟨b, o + i * 2 + 1, none⟩ = some (.int .i64 ads[i].2) from fun h => by
    obtain ⟨b, o, h1, h2, h3, h4⟩ := hcl (by rw [← hn]; exact h)
    exact ⟨b, o, h1, h2, h4⟩)
  have HN := Lib.hid hn
  have HG := Lib.hid hG
  rw [← hn] at hcap hal ⊢
  clear hl hr hv hcl hn hG
  go_enter Tryz.func4, Tryz.ntmps4
  go_wp2_with fail
  refine (HBS.out).mono ?_
  rintro r w1 ⟨l, u, rfl, hBt, hRows, hb1⟩
  obtain ⟨K, hKl⟩ : ∃ K, K = l.length := ⟨_, rfl⟩
  have hu : ∃ A c, u = .slice A K c := by
    obtain ⟨vs, h1, _⟩ := hRows
    obtain ⟨A, c, h, _⟩ := own_form h1
    exact ⟨A, c, by rw [hKl]; exact h⟩
  have HL := Lib.hid (And.intro hBt (And.intro hRows hb1))
  have HKL := Lib.hid hKl
  have HB1 := Lib.hid hb1
  obtain ⟨Au, cu, rfl⟩ := hu
  clear hBt hRows hb1 hKl
  go_wp2_with fail
  refine (HOP.out w1).mono ?_
  rintro r w2 ⟨W, B, rfl, hW1, hW2, hB, hb2⟩
  have HWB := Lib.hid (And.intro hW1 (And.intro hW2 hB))
  have HB2 := Lib.hid (HB1.out.trans (hb2.mono HB1.out.size))
  have hgr := grown_calls (w := w2) hW1 hW2 hB l HL.out.1 ((HL.out.2.1.grid.keep hb2.size fun b hlt _ => hb2.block b hlt).mono fun b hb _ => hb) (HG.out.keep HB2.out)
  have HGR := Lib.hid hgr
  clear hW1 hW2 hB hb2 hgr
  unfold optV at *
  go_wp2_with fail
  refine (HGR.out).mono ?_
  rintro r w3 ⟨a, D, now, log, F, rfl, hGr⟩
  have HB3 := Lib.hid (HB2.out.trans (hGr.below.mono HB2.out.size))
  obtain ⟨ps, hps, rfl, hpl⟩ := hGr.puts
  have HAS3 := Lib.hid (hGr.asks HL.out.1.few).askD
  have hpw : ps.length ≤ 5490 := by have := hGr.logs; rw [wlog_len] at this; have := HL.out.1.few; omega
  have hLb : l.flatten.length ≤ 1800 := by have := (HL.out.1.take l.length).2; rw [List.take_length] at this; exact this
  obtain ⟨L, hLL⟩ : ∃ L, L = l.flatten := ⟨_, rfl⟩
  rw [← hLL] at hLb HAS3
  obtain ⟨nL, hnL⟩ : ∃ n, n = L.length := ⟨_, rfl⟩
  rw [← hnL] at hLb
  have HNL := Lib.hid (And.intro hnL hLb)
  obtain ⟨P, hP⟩ : ∃ P, P = ps.length := ⟨_, rfl⟩
  have hPd : (wlog ps).length / 3 = P := by rw [wlog_len, hP]; omega
  obtain ⟨bb, hbb1, hbb2⟩ : ∃ bb : Bool, decide (0 < K) = bb ∧ decide (0 < P) = bb := by
    refine ⟨_, rfl, ?_⟩
    have h1 := hGr.logs
    rw [wlog_len] at h1
    have h2 := HKL.out
    rw [← h2] at h1 hpl
    have : 0 < P ↔ 0 < K := by omega
    exact decide_eq_decide.2 this
  have HBB := Lib.hid (And.intro hbb1 hbb2)
  have HPS := Lib.hid (And.intro hps (And.intro hpw hPd))
  obtain ⟨U, hU⟩ : ∃ U, U = usedR now := ⟨_, rfl⟩
  have HU := Lib.hid hU
  obtain ⟨eb, heb⟩ : ∃ eb, eb = a.eb := ⟨_, rfl⟩
  obtain ⟨sb, hsb⟩ : ∃ sb, sb = a.sb := ⟨_, rfl⟩
  have HEB := Lib.hid (And.intro heb hsb)
  rw [← heb, ← hsb]
  have HUS := Lib.hid (show ∀ (roots : Nat) (D' : ED) (disk' : Recs) (log' : List Value) (wr : World), AskD w2 wr a W B L roots D' now disk' log' F → Calls Tryz.prog 20 #[.pointer (some ⟨sb, 0, none⟩)] wr fun r w' => r = .returned (.int .i64 (U : Int)) ∧ wr = w' from fun _ _ _ _ wr h => by
    have := h.used
    rw [← HEB.out.2, ← HU.out] at this
    exact this)
  have HPE := Lib.hid (show ∀ (roots : Nat) (D' : ED) (disk' : Recs) (wr : World), AskD w2 wr a W B L roots D' now disk' (wlog ps) F → Calls Tryz.prog 21 #[.pointer (some ⟨sb, 0, none⟩)] wr fun r w' => r = .returned (.int .i64 (P : Int)) ∧ wr = w' from fun _ _ _ wr h => by
    have := h.pending
    rw [← HEB.out.2, HPS.out.2.2] at this
    exact this)
  have HSZ := Lib.hid (show ∀ (roots : Nat) (D' : ED) (disk' : Recs) (log' : List Value) (wr : World), AskD w2 wr a W B L roots D' now disk' log' F → Calls Tryz.prog 15 #[.pointer (some ⟨eb, 0, none⟩)] wr fun r w' => r = .returned (.int .i64 (nL : Int)) ∧ wr = w' from fun _ _ _ _ wr h => by
    have := h.size
    rw [← HEB.out.1, ← HNL.out.1] at this
    exact this)
  have HRL := Lib.hid (show ∀ (roots : Nat) (D' : ED) (disk' : Recs) (log' : List Value) (wr : World), roots ≤ 140737488351240 → AskD w2 wr a W B L roots D' now disk' log' F → Calls Tryz.prog 18 #[.pointer (some ⟨eb, 0, none⟩), .int .i64 (nL : Int)] wr fun r w' => ∃ s e, r = .returned (.tuple #[.string s, .int .i64 e]) ∧ ∃ D'', AskD w2 w' a W B L (roots + 1) D'' now disk' log' F from fun _ _ _ _ wr hr h => by
    have := h.root (by rw [← HNL.out.1]; exact HNL.out.2) hr (nL : Int)
    rw [← HEB.out.1] at this
    exact this.mono fun r w' ⟨h1, D'', h2, _⟩ => ⟨_, _, h1, D'', h2⟩)
  have HIM := Lib.hid (show ∀ (roots : Nat) (D' : ED) (disk' : Recs) (log' : List Value) (wr : World), SmallD disk' → disk'.length ≤ 100000000 → AskD w2 wr a W B L roots D' now disk' log' F → Calls Tryz.prog 23 #[.pointer (some ⟨sb, 0, none⟩)] wr fun r w' => ∃ ss, KeysAre (recF disk') ss ∧ r = .returned (.string ⟨(imgL (recF disk') ss).toArray⟩) ∧ Below wr.heap.size wr w' from fun _ _ _ _ wr h1 h2 h => by
    have := image_calls h.sys.sto h1 h2
    rw [← HEB.out.2] at this
    exact this)
  clear hGr hps hpl hpw hLb hLL hnL hPd hbb1 hbb2 hU heb hsb hP
  go_wp2_with fail
  refine (HUS.out _ _ _ _ w3 HAS3.out).mono ?_
  rintro r w4 ⟨rfl, rfl⟩
  go_wp2_with fail
  refine (HPE.out _ _ _ w3 HAS3.out).mono ?_
  rintro r w4 ⟨rfl, rfl⟩
  go_wp2_with fail
  clear HGR HBS HOP
  go_loopw [15] (fun iv wr => ∃ (i : Nat) (D1 : ED), iv = .int .i64 (i : Int) ∧ i ≤ n ∧ Hid (AskD w2 wr a W B L i D1 now [] (wlog ps) F)) (fun iv _ => n + 1 - (intOf iv).toNat)
  case atStart => exact ⟨0, D, rfl, by omega, HAS3⟩
  case round =>
    obtain ⟨i, D1, rfl, hin, HAS⟩ := hrel
    by_cases h1 : i < n
    · obtain ⟨b, o, rfl, hb, hcells⟩ := HCL.out (by omega)
      have hia : i < ads.length := by rw [← HN.out]; exact h1
      have HCW := Lib.hid (fun (w' : World) (hb' : Below w.heap.size w w') => And.intro ((hb'.cell (p := ⟨b, o + i * 2, none⟩) hb).trans (hcells i hia).1) ((hb'.cell (p := ⟨b, o + i * 2 + 1, none⟩) hb).trans (hcells i hia).2))
      obtain ⟨p, hp⟩ : ∃ p, p = ads[i].1 := ⟨_, rfl⟩
      obtain ⟨q, hq⟩ : ∃ q, q = ads[i].2 := ⟨_, rfl⟩
      rw [← hp, ← hq] at HCW
      have HCA := Lib.hid (fun (w' : World) {D' : ED} {rs : Nat} (h : AskD w2 w' a W B L rs D' now [] (wlog ps) F) => HCW.out w' (HB2.out.trans (h.below.mono HB2.out.size)))
      obtain ⟨d0, d1⟩ := HCA.out wr HAS.out
      have hnd := HAS.out.node (by rw [← HNL.out.1]; exact HNL.out.2) (by omega) p q
      rw [← HEB.out.1] at hnd
      unfold addrV at hnd
      have HND := Lib.hid hnd
      clear hnd hp hq hcells hb hia
      go_wp2_with fail
      refine (HND.out).mono ?_
      rintro r w5 ⟨rfl, D2, hA2, _⟩
      have HA2 := Lib.hid hA2
      have hlf := hA2.leaf q
      rw [← HEB.out.1] at hlf
      have HLF := Lib.hid hlf
      clear d0 d1
      obtain ⟨d0, d1⟩ := HCA.out w5 hA2
      clear hA2 hlf HND
      go_wp2_with fail
      refine (HLF.out).mono ?_
      rintro r w6 ⟨rfl, m, rfl⟩
      have hA3 := HA2.out.keep (below_drewN (Below.refl _ w5) m)
      have hrt := hA3.root (by rw [← HNL.out.1]; exact HNL.out.2) (by omega) q
      rw [← HEB.out.1] at hrt
      have HRT := Lib.hid hrt
      clear d0 d1
      obtain ⟨d0, d1⟩ := HCA.out _ hA3
      clear hA3 hrt HLF
      go_wp2_with fail
      refine (HRT.out).mono ?_
      rintro r w7 ⟨rfl, D4, hA4, _⟩
      have HA4 := Lib.hid hA4
      have hcn := hA4.counts
      rw [← HEB.out.1] at hcn
      have HCN := Lib.hid hcn
      unfold countsV at HCN
      clear d0 d1 hA4 hcn HRT
      go_wp2_with fail
      refine (HCN.out).mono ?_
      rintro r w8 ⟨rfl, hb8⟩
      have HA8 := Lib.hid (HA4.out.keep hb8)
      clear hb8 HCN
      go_wp2
      exact ⟨⟨i + 1, D4, by congr 1, by omega, HA8⟩, by simp [intOf]; omega⟩
    · go_wp2_with fail
      refine (HSZ.out _ _ _ _ wr HAS.out).mono ?_
      rintro r w5 ⟨rfl, rfl⟩
      go_wp2_with fail
      refine (HRL.out _ _ _ _ wr (by omega) HAS.out).mono ?_
      rintro r w5 ⟨s1, e1, rfl, D2, hA2⟩
      have HA2 := Lib.hid hA2
      clear hA2
      go_wp2_with fail
      refine (HUS.out _ _ _ _ w5 HA2.out).mono ?_
      rintro r w6 ⟨rfl, rfl⟩
      go_wp2_with fail
      refine (HPE.out _ _ _ w5 HA2.out).mono ?_
      rintro r w6 ⟨rfl, rfl⟩
      go_wp2_with fail
      refine (HIM.out _ _ _ _ w5 (fun k u h => by simp [getR] at h) (by simp) HA2.out).mono ?_
      rintro r w6 ⟨ss, hks, rfl, hb6⟩
      have hss : (⟨(imgL (recF []) ss).toArray⟩ : ByteArray) = ⟨#[83]⟩ := by
        rw [KeysAre.none (ss := ss) hks]
        rfl
      rw [hss]
      have HA6 := Lib.hid (HA2.out.keep hb6)
      obtain ⟨hk1, hk2⟩ := HBB.out
      have hk3 : (!bb == bb) = false := by cases bb <;> rfl
      have hsy := HA6.out.sync HPS.out.1 (by have := HPS.out.2.1; simp; omega)
      rw [← HEB.out.2] at hsy
      have HSY := Lib.hid hsy
      clear hks hss hb6 hsy
      go_wp2_with fail
      refine (HSY.out).mono ?_
      rintro r w7 ⟨rfl, hA7⟩
      have HA7 := Lib.hid hA7
      have HSD := Lib.hid (show SmallD (putsR [] ps) from putsR_small (fun k u h => by simp [getR] at h) HPS.out.1)
      have HLD := Lib.hid (show (putsR [] ps).length ≤ 100000000 from by have := putsR_len ps []; have := HPS.out.2.1; simp at *; omega)
      clear hk1 hk2 hk3 hA7 HSY
      go_wp2_with fail
      refine (HIM.out _ _ _ _ w7 HSD.out HLD.out HA7.out).mono ?_
      rintro r w8 ⟨ss, hks, rfl, hb8⟩
      obtain ⟨im, him⟩ : ∃ im : ByteArray, im = ⟨(imgL (recF (putsR [] ps)) ss).toArray⟩ := ⟨_, rfl⟩
      have HIS := Lib.hid (And.intro hks him)
      have HA8 := Lib.hid (HA7.out.keep hb8)
      rw [← him]
      clear hks him hb8
      go_wp2_with fail
      refine (HSZ.out _ _ _ _ w8 HA8.out).mono ?_
      rintro r w9 ⟨rfl, rfl⟩
      go_wp2_with fail
      refine (HRL.out _ _ _ _ w8 (by omega) HA8.out).mono ?_
      rintro r w9 ⟨s2, e2, rfl, D9, hA9⟩
      have HA9 := Lib.hid hA9
      clear hA9
      go_wp2_with fail
      refine (num_calls 0 w9).mono ?_
      rintro r w10 ⟨rfl, rfl⟩
      go_wp2_with fail
      refine (HIM.out _ _ _ _ w9 HSD.out HLD.out HA9.out).mono ?_
      rintro r w11 ⟨tt, hkt, rfl, hb11⟩
      have htt : (⟨(imgL (recF (putsR [] ps)) tt).toArray⟩ : ByteArray) = im := by rw [HIS.out.2, hkt.one HIS.out.1]
      rw [htt]
      have HA11 := Lib.hid (HA9.out.keep hb11)
      have hpe := HA11.out.pending
      rw [← HEB.out.2] at hpe
      have HPE2 := Lib.hid hpe
      have HFIN := Lib.hid (HB2.out.trans (HA11.out.below.mono HB2.out.size))
      clear hkt htt hb11 hpe
      go_wp2_with fail
      refine (HPE2.out).mono ?_
      rintro r w12 ⟨rfl, rfl⟩
      go_wp2
      go_ret
      exact ⟨by simp, HFIN.out⟩
end
end Go.Proofs.YtblkehdpenfhjaaGreatDoor
/-
  ShardQuiet: the contract, the row.
-/
set_option linter.unusedVariables false
set_option linter.unusedSimpArgs false
namespace Go.Proofs.YtblkehdpenfhjaaGreatDoor
open Go.RowKit Go.ChangeShapes Go.WideShapes Go.ChangeAt

namespace shardQuiet
set_option maxRecDepth 100000 in
theorem contract (H : Type) (enc : TypeId × Value → H) (W : World) (base : Nat) (args : Array Value) (ds gs : List (DataW H)) (before : List MemPlace)
    (hval : ∀ (j : Nat) t v, Tryz.f4.params[j]? = some t → args[j]? = some v → Value.okWide Tryz.prog W .any base t v)
    (hW : DataW.Whole enc Tryz.prog Tryz.f4.params.toList Rows.shardQuietSpec.vars false W args.toList ds gs before) (hk : Rows.uptoSmall H (ds ++ gs) = true) (hL : laidMetH Tryz.prog laid2 W) :
    Calls Tryz.prog 4 args W fun e W' => ∃ v, e = .returned v ∧ Rows.shardQuietSpec.post enc Tryz.prog Tryz.f4 false true false false W args v W' := by
  have hW' := hW
  obtain ⟨p, q, hA0, hV, rfl, hfz, hnd⟩ := hW
  have hA : DataW.TrodAll enc Tryz.prog W 0 (fun _ => true) true Tryz.f4.params.toList args.toList ds p := hA0
  rw [Tryz.params4] at hA hval
  obtain ⟨v0, vs0, d0, ds0, p0, q0, hargs, rfl, rfl, h0, r0⟩ := trodAll_cons hA
  obtain ⟨v1, vs1, d1, ds1, p1, q1, rfl, rfl, rfl, h1, r1⟩ := trodAll_cons r0
  obtain ⟨v2, vs2, d2, ds2, p2, q2, rfl, rfl, rfl, h2, r2⟩ := trodAll_cons r1
  obtain ⟨v3, vs3, d3, ds3, p3, q3, rfl, rfl, rfl, h3, r3⟩ := trodAll_cons r2
  obtain ⟨rfl, rfl, rfl⟩ := trodAll_nil r3
  obtain rfl : args = #[v0, v1, v2, v3] := by cases args; simp_all
  obtain ⟨rfl, rfl⟩ := trodVars_none hV
  clear hA0 hargs
  obtain ⟨n0, rfl, rfl, rfl, w0⟩ := open_int Tryz.underlying3 (hval 0 3 v0 rfl rfl) h0
  obtain ⟨n1, rfl, rfl, rfl, w1⟩ := open_int Tryz.underlying3 (hval 1 3 v1 rfl rfl) h1
  have hsl2 := okWide_slice Tryz.underlying22 (hval 2 22 v2 rfl rfl)
  have hsl3 := okWide_slice Tryz.underlying23 (hval 3 23 v3 rfl rfl)
  simp only [List.append_nil, List.nil_append] at hW'
  have hb : Rows.uptoBulkAll ([DataW.lit (.int .i64 n0), DataW.lit (.int .i64 n1), d2, d3] ++ []) ≤ 1048576 := of_decide_eq_true hk
  simp only [List.append_nil, List.cons_append, Rows.uptoBulkAll, Rows.uptoBulk] at hb
  have h2k := h2
  have h3k := h3
  obtain ⟨fuel2, hf2⟩ := h2
  obtain ⟨fuel3, hf3⟩ := h3
  have hlt2 : ∀ x ∈ p2, x.block < W.heap.size := fun x hx => by simpa using hW'.lt x (by simp [hx])
  have hlt3 : ∀ x ∈ p3, x.block < W.heap.size := fun x hx => by simpa using hW'.lt x (by simp [hx])
  obtain ⟨g, hg1, hg2, hg3⟩ := rows_open (x := (d2, p2)) hf2 hsl2 hlt2
  obtain ⟨ads, ha1, ha2⟩ := addrs_open (x := (d3, p3)) hf3 hsl3 hlt3
  simp only at hg2 hg3 ha2
  refine (quiet_calls n0 n1 g (by omega) (fun r hr => by have := hg3 r hr; omega) hg1 ads (by omega) ha1 (glob_of_laid hL)).mono fun e W' ⟨he, bel⟩ => ?_
  subst he
  exact ⟨_, rfl, _, _, _, _, _, [], hW', trodAll_mk1 (shut_bool Tryz.underlying4 _), (trodAll_cons_mk (shut_int Tryz.underlying3 w0) (trodAll_cons_mk (shut_int Tryz.underlying3 w1) (trodAll_cons_mk (Below.trod laid_out (by kernel_rfl) (of_decide_eq_true (by kernel_rfl)) h2k bel hlt2) (trodAll_cons_mk (Below.trod laid_out (by kernel_rfl) (of_decide_eq_true (by kernel_rfl)) h3k bel hlt3) trodAll_mk0)))), rfl, bel.frame _, fun h => by cases h⟩
theorem laid_met (os : Os) : laidMet Tryz.prog laid2 ((laidWorld os).forCall (fun _ _ => 0) ⟨#[], #[.int .i64 0, .int .i64 0, .slice none 0 0, .slice none 0 0], []⟩).memory :=
  laidMet_of_run' 8 (by kernel_rfl) (by kernel_rfl)
theorem reads (os : Os) {H : Type} (enc : TypeId × Value → H) : ∃ places, DataW.whole enc Tryz.prog ((laidWorld os).forCall (fun _ _ => 0) ⟨#[], #[.int .i64 0, .int .i64 0, .slice none 0 0, .slice none 0 0], []⟩).memory Tryz.f4.params.toList Rows.shardQuietSpec.vars false #[Value.int .i64 0, .int .i64 0, .slice none 0 0, .slice none 0 0].toList 8 = some ([.lit (.int .i64 0), .lit (.int .i64 0), .nil, .nil], [], places) :=
  ⟨[], by kernel_rfl⟩
set_option maxRecDepth 100000 in
theorem liftedUpto (os : Os) (started : os.Started) (H : Type) (enc : TypeId × Value → H) (F : Stop.Interp) :
    ReturnsInHanded {} Tryz.checked os 4 .any ((Rows.OpenSpec.upto Rows.shardQuietSpec).preRow enc Tryz.prog Tryz.f4 Rows.shardQuietUptoRow.domain false Rows.shardQuietUptoRow.laid) (((Rows.OpenSpec.upto Rows.shardQuietSpec).at F).post enc Tryz.prog Tryz.f4 false true false false) := by
  obtain ⟨places, hx⟩ := reads os enc
  refine returnsInHanded_of_row (C := Tryz.checked) (s := Rows.OpenSpec.upto Rows.shardQuietSpec) own_knob started (by kernel_rfl) Tryz.func4
    (witness_row_at (enc := enc) (C := Tryz.checked) false (laidWorld os) #[.int .i64 0, .int .i64 0, .slice none 0 0, .slice none 0 0] rfl (by kernel_rfl) (by kernel_rfl) (by kernel_rfl)
      (OpenSpec.preRow_of_cond 8 hx (by kernel_rfl) (fun k hk => by cases hk; kernel_rfl) (by kernel_rfl) (laid_met os))) ?_
  intro W base args ds gs before hval hW c1 c2 c3 hL _ _
  exact contract H enc W base args ds gs before hval hW (by first | exact c2 _ rfl | exact c3 _ rfl) hL
theorem plain (f : FuncId) (fn : Func) (hf : Tryz.pinned.checked.prog.funcNamed "annals/annalslaw17.ShardQuiet" = some f) (hfn : Tryz.pinned.checked.prog.funcs[f]? = some fn) :
    true = Tryz.pinned.checked.prog.looks [] ∧ ∀ (j : Nat) t, fn.params[j]? = some t → Tryz.pinned.checked.prog.wantsStandIn t = false := by
  obtain rfl : f = 4 := Option.some.inj ((show Tryz.prog.funcNamed "annals/annalslaw17.ShardQuiet" = some 4 by kernel_rfl).symm.trans hf) |>.symm
  obtain rfl : fn = Tryz.f4 := (Option.some.inj (Tryz.func4.symm.trans hfn)).symm
  refine ⟨by kernel_rfl, fun j t ht => ?_⟩
  rw [Tryz.params4] at ht
  have hmem := Array.mem_of_getElem? ht
  have hall : (#[3, 3, 22, 23] : Array TypeId).all (fun t => !Tryz.prog.wantsStandIn t) = true := by kernel_rfl
  have := Array.all_eq_true_iff_forall_mem.1 hall t hmem
  show Tryz.prog.wantsStandIn t = false
  simpa using this
end shardQuiet
end Go.Proofs.YtblkehdpenfhjaaGreatDoor
