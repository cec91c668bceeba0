import Derived.Test.YtblkehdpenfhjaaGreatDoorR11
set_option linter.unnecessarySimpa false
set_option linter.unusedVariables false
set_option linter.unusedSimpArgs false
/-
  Package shard: Flush.
-/
set_option linter.unusedVariables false
set_option linter.unusedSimpArgs false
namespace Go.Proofs.YtblkehdpenfhjaaGreatDoor
open Go.RowKit Go.Maps Go.ChangeMaps Go.MapKept

section
variable {w w' : World} {a : EA} {D : ED} {X Y : Nat → Prop} {room : Nat} {now disk : Recs} {log : List Value} {F : Nat → Prop}
theorem sumN_upto (g : Nat → Nat) (h1 : ∀ k, g k ≤ 1) (n : Nat) (h0 : ∀ k, n ≤ k → g k = 0) : ∀ m, sumN g m ≤ min m n
  | 0 => by simp [sumN]
  | m + 1 => by
    have h := sumN_upto g h1 n h0 m
    have h2 := h1 m
    simp only [sumN]
    by_cases hm : n ≤ m
    · rw [h0 m hm]; omega
    · omega
theorem cntN_bool (f : Nat → Bool) (n : Nat) (h : ∀ j, f j = true → j < n) : cntN (boolF f) ≤ n := by
  have := sumN_upto (fun k => bit (boolF f k)) (fun k => bit_le _) n (fun k hk => by
    unfold boolF bit
    cases hf : f k with
    | false => rfl
    | true => have := h k hf; omega) big
  unfold cntN
  omega
theorem addNodes_add (D : ED) (k m : Nat) : (D.addNodes k).addNodes m = D.addNodes (k + m) := by
  unfold ED.addNodes
  simp only [Nat.add_assoc]
theorem own_slice' {w : World} {B : Nat} {e : TypeId} {sz n : Nat} {v : Value} {us : List Value} (h : w.ownsRow B e sz v n us) : ∃ A c, v = .slice A n c := by
  rcases h.2 with ⟨h, hn⟩ | ⟨g, cap, cur, h, _⟩
  · exact ⟨none, 0, by rw [h, hn]⟩
  · exact ⟨_, _, h⟩
theorem putR_len_le' (r : Recs) (k v : ByteArray) : (putR r k v).length ≤ r.length + 1 := by rw [putR_length]; unfold grow; split <;> omega
/-- what a Flush leaves -/
structure FlushLeft (w w' : World) (a : EA) (D D' : ED) (room : Nat) (now now' disk : Recs) (log log' : List Value) (F FS F' : Nat → Prop) (k n : Nat) : Prop where
  sys : Sys w' a D' room now' disk log' (fun b => F b ∨ F' b)
  sto : StoreAt w' a.sb room now' disk log' D'.age F'
  W : D'.W = D.W
  B : D'.B = D.B
  L : D'.L = D.L
  space : D'.space = D.space
  cnt : D'.nodes + cnt D = D.nodes + cnt D' + k
  unwr : ∀ j, D'.unwr j = true → j * D'.size < D'.L.length
  used : usedR now' ≤ usedR now + 94 * n
  logs : log'.length ≤ log.length + 3 * n
  many : now'.length ≤ now.length + n
  turn : Turn (fun b => a.own b ∨ FS b) w w'
  own : ∀ b, F' b → FS b ∨ w.heap.size ≤ b
set_option maxHeartbeats 16000000 in
set_option maxRecDepth 100000 in
theorem flush_callsG {FS : Nat → Prop} (h : Sys w a D room now disk log F) (hSt : StoreAt w a.sb room now disk log D.age FS) (hSub : ∀ b, FS b → F b) (hsp : D.space = 3) (hun : ∀ j, D.unwr j = true → j * D.size < D.L.length) (hL : D.L.length ≤ 1800) (hno : D.nodes + D.most + 200000 ≤ 1152921504606846976 + cnt D)
    (hu : usedR now + 94 * 1800 ≤ room) (hlg : log.length ≤ 2000000000) (hnl : now.length ≤ 900000000) :
    Calls Tryz.prog 26 #[.pointer (some ⟨a.eb, 0, none⟩)] w fun r w' => r = .returned (.int .i64 0) ∧ ∃ D' now' log' F' k, k ≤ 111600 ∧ FlushLeft w w' a D D' room now now' disk log log' F FS F' k 1800 := by
  have HST0 := Lib.hid (And.intro hSt hSub)
  have heF : (fun b => F b ∨ FS b) = F := funext fun b => propext ⟨fun h => h.elim _root_.id (hSub b), .inl⟩
  have HEF := Lib.hid heF
  clear hSt hSub heF
  have hsz := D.size_pos
  have hcn : cntN (boolF D.unwr) ≤ 1800 := Nat.le_trans (cntN_bool D.unwr D.L.length fun j hj => Nat.lt_of_le_of_lt (Nat.le_mul_of_pos_right j hsz) (hun j hj)) hL
  have HO := Lib.hid (show Calls Tryz.prog 58 #[.pointer (some ⟨a.eb, 0, none⟩)] w fun r w' => r = .returned (.bool false) ∧ ∃ n, w' = w.drewN n from by obtain ⟨lv, rv, sf, ns, hE⟩ := h.eng; exact over_calls hE h.sto)
  have HS := Lib.hid (fun w' (hb : Below w.heap.size w w') => h.below hb)
  have HUM := Lib.hid (show ∀ w', Below w.heap.size w w' → IntMap Tryz.prog 3 w' a.ub (boolF D.unwr) ∧ w'.cell? ⟨a.eb, 13, none⟩ = some (.map (some a.ub)) ∧ w'.cell? ⟨a.eb, 15, none⟩ = some (.int .i64 (D.nodes : Int)) from fun w' hb => by
    obtain ⟨lv, rv, sf, ns, hE⟩ := (h.below hb).eng
    exact ⟨hE.unwrM, hE.c13, hE.c15⟩)
  have HBD := Lib.hid (And.intro hun (And.intro hno (And.intro hu (And.intro hlg (And.intro hnl hsp)))))
  have HLW := Lib.hid (show ∀ b, a.own b ∨ F b → b < w.heap.size from fun b hb => hb.elim (fun h' => h.eng.low h') (fun h' => h.low b h'))
  have HCN := Lib.hid hcn
  have HL := Lib.hid hL
  obtain ⟨eb, heb⟩ : ∃ x, x = a.eb := ⟨_, rfl⟩
  obtain ⟨ub, hub⟩ : ∃ x, x = a.ub := ⟨_, rfl⟩
  obtain ⟨sb, hsb⟩ : ∃ x, x = a.sb := ⟨_, rfl⟩
  have HEB := Lib.hid (And.intro heb (And.intro hub hsb))
  rw [← heb] at HO HUM ⊢
  rw [← hub] at HUM
  clear h hsp hun hL hno hu hlg hnl hsz hcn heb hub hsb
  go_enter Tryz.func26, Tryz.ntmps26
  go_wp2_with fail
  refine (HO.out).mono ?_
  rintro r w0 ⟨rfl, n0, hw0⟩
  have hb0 : Below w.heap.size w w0 := by rw [hw0]; exact below_drewN (Below.refl _ _) n0
  have HB0 := Lib.hid hb0
  clear hw0 hb0
  obtain ⟨hum, c13, _⟩ := HUM.out w0 HB0.out
  obtain ⟨hk1, hk2⟩ := numbers_calls hum (by have := HCN.out; omega)
  obtain ⟨w1, hw1⟩ : ∃ w1, w1 = w0.alloc (.cells #[.map (some ub)] 85) := ⟨_, rfl⟩
  rw [← hw1] at hk1 hk2
  have HK1 := Lib.hid hk1
  have HK2 := Lib.hid hk2
  clear hum hk1 hk2 hw1
  go_wp2_with fail
  refine (HK1.out).mono ?_
  rintro r w1' ⟨rfl, rfl⟩
  clear c13
  go_wp2_with fail
  refine (HK2.out).mono ?_
  rintro r w2 ⟨v, js, rfl, hjs, hjl, hrow, hb2⟩
  obtain ⟨A, c, rfl⟩ := own_slice' hrow
  have HB2 := Lib.hid (HB0.out.trans (hb2.mono HB0.out.size))
  have hsl := SlIn.of_own hrow
  have HJ := Lib.hid (show ∀ j ∈ js, j ≤ 68719476736 ∧ j * D.size < D.L.length from fun j hj => by
    have h1 := hjs j hj
    have h2 : D.unwr j = true := by
      unfold boolF at h1
      cases hd : D.unwr j with
      | true => rfl
      | false => rw [hd] at h1; cases h1
    have h3 := HBD.out.1 j h2
    have h4 := Nat.le_mul_of_pos_right j D.size_pos
    have h5 := HL.out
    exact ⟨by omega, h3⟩)
  obtain ⟨n, hn⟩ : ∃ n, n = js.length := ⟨_, rfl⟩
  have hnb : n ≤ 1800 := by rw [hn, hjl]; exact HCN.out
  have HN := Lib.hid hn
  have HSL := Lib.hid (show SlIn w2 (.slice A js.length c) (js.map fun (j : Nat) => Value.int .i64 (j : Int)) (fun b => w.heap.size ≤ b) from hsl.mono fun b _ hb => Nat.le_trans HB0.out.size hb)
  rw [← hn]
  clear hjs hjl hrow hb2 hsl hn HK1 HK2
  have hfi := fits_calls (HS.out w2 HB2.out) HBD.out.2.2.2.2.2 js (fun j hj => (HJ.out j hj).1) (by rw [← HN.out]; omega) HSL.out
  rw [← HEB.out.1, ← HN.out] at hfi
  have HFI := Lib.hid hfi
  clear hfi
  go_wp2_with fail
  refine (HFI.out).mono ?_
  rintro r w3 ⟨bf, rfl, hb3⟩
  have HB3 := Lib.hid (HB2.out.trans (hb3.mono HB2.out.size))
  have HSL3 := Lib.hid (HSL.out.below hb3)
  clear hb3 HFI
  cases bf with
  | false =>
    have HS3 := Lib.hid (HS.out w3 HB3.out)
    go_wp2
    go_ret
    exact ⟨rfl, D, now, log, FS, 0, by omega, ⟨by rw [HEF.out]; exact HS3.out, HST0.out.1.below HB3.out, rfl, rfl, rfl, rfl, rfl, HBD.out.1, by omega, by omega, by omega, Turn.of_below HB3.out, fun b hb => .inl hb⟩⟩
  | true =>
    obtain ⟨_, _, c15⟩ := HUM.out w3 HB3.out
    have hS3 := HS.out w3 HB3.out
    have her := eachRehash_calls hS3.eng hS3.glob hS3.good hS3.new (by have := HBD.out.2.1; omega) js HJ.out (by rw [← HN.out]; omega) HSL3.out (fun b hb ho => by have := HLW.out b (.inl ho); omega)
    rw [← HEB.out.1, ← HN.out] at her
    have HER := Lib.hid her
    clear hS3 her
    go_wp2_with fail
    refine (HER.out).mono ?_
    rintro r w4 ⟨rfl, D2, hA4, hd4⟩
    have HA4 := Lib.hid hA4
    have HD4 := Lib.hid hd4
    have HS4 := Lib.hid ((HS.out w3 HB3.out).asked hA4)
    clear hA4 hd4 HER c15
    have HCL := Lib.hid (show 0 < n → ∃ b o, A = some ⟨b, o, none⟩ ∧ b < w4.heap.size ∧ ¬ a.own b ∧ ¬ F b ∧ ∀ i (h : i < js.length), w4.cell? ⟨b, o + i, none⟩ = some (.int .i64 (js[i] : Int)) from fun h0 => by
      obtain ⟨A', c', he, _, hcells⟩ := HSL3.out.keep HA4.out.turn.size fun b hb hX => HA4.out.turn.block b hb (fun ho => by have := HLW.out b (.inl ho); omega)
      rw [List.length_map] at he
      injection he with e1 e2 e3
      obtain ⟨b, o, g1, g2, g3, g4⟩ := hcells (by rw [List.length_map, ← HN.out]; exact h0)
      exact ⟨b, o, by rw [e1]; exact g1, g2, fun ho => by have := HLW.out b (.inl ho); omega, fun ho => by have := HLW.out b (.inr ho); omega, fun i hi => by rw [g4 i (by rw [List.length_map]; exact hi), List.getElem_map]⟩)
    have HNO2 := Lib.hid (show D2.nodes + 200000 ≤ 1152921504606846976 from by
      have h1 := HA4.out.cnt
      have h2 := cnt_le D2
      have h3 := HA4.out.like.most
      have h4 := HBD.out.2.1
      omega)
    have HG4 := Lib.hid (And.intro HS4.out.glob HS4.out.eng.glb)
    go_wp2_with fail
    go_loopw [31] (fun iv wr => ∃ (i K : Nat), iv = .int .i64 (i : Int) ∧ i ≤ n ∧ K ≤ 62 * i ∧ Hid (Asked w4 wr a D2 (D2.addNodes K) (fun b => ¬ a.own b ∧ ¬ F b) K)) (fun iv _ => n + 1 - (intOf iv).toNat)
    case atStart => exact ⟨0, 0, rfl, by omega, by omega, Lib.hid (Asked.refl HS4.out.eng HS4.out.good)⟩
    case round =>
      obtain ⟨i, K, rfl, hin, hKi, HA⟩ := hrel
      by_cases hi : i < n
      · obtain ⟨b, o, rfl, hb, hbo, hbF, hcl⟩ := HCL.out (by omega)
        have hij : i < js.length := by rw [← HN.out]; exact hi
        have dj := (HA.out.turn.cell (p := ⟨b, o + i, none⟩) hb hbo).trans (hcl i hij)
        have hjj := HJ.out _ (List.getElem_mem hij)
        have hdj := HD4.out _ (List.getElem_mem hij)
        obtain ⟨j, hje⟩ : ∃ j, j = js[i] := ⟨_, rfl⟩
        rw [← hje] at dj hjj hdj
        have hpk := peaks_calls HA.out.eng HA.out.good j hjj.1 (by show j * D2.size < D2.L.length; rw [HA4.out.like.size, HA4.out.like.L]; exact hjj.2) hdj
        rw [← HEB.out.1] at hpk
        have HPK := Lib.hid hpk
        clear hje hcl hb hbo hbF hij hjj hdj hpk
        go_wp2_with fail
        refine (HPK.out).mono ?_
        rintro r w5 ⟨u, ps, rfl, hp1, hp2, hrow, hb5⟩
        have hA5 := HA.out.below hb5
        have hfo := engFold_calls hA5.eng ((HG4.out.1.turn hA5.turn HG4.out.2)) hA5.good ps hp1 (by omega) (by show D2.nodes + K + (ps.length - 1) ≤ _; have := HNO2.out; omega) (SlIn.of_own hrow) (fun b hb ho => by have := HA.out.eng.low ho; omega)
        rw [← HEB.out.1, addNodes_add] at hfo
        have HFO := Lib.hid hfo
        have HA5 := Lib.hid hA5
        have HPL := Lib.hid hp2
        clear hp1 hp2 hrow hb5 hA5 hfo dj
        go_wp2_with fail
        refine (HFO.out).mono ?_
        rintro r w6 ⟨rfl, hA6⟩
        have HA6 := Lib.hid (HA5.out.trans hA6)
        clear hA6
        go_wp2
        exact ⟨⟨i + 1, K + (ps.length - 1), by congr 1, by omega, by have := HPL.out; omega, HA6⟩, by simp [intOf]; omega⟩
      · have HE := Lib.hid (show i = n from by omega)
        go_wp2_with fail
        have HS5 := Lib.hid (HS4.out.asked HA.out)
        have HKB := Lib.hid (show K ≤ 111600 from by omega)
        have HT5 := Lib.hid (show Turn (fun b => a.own b ∨ FS b) w4 wr from HA.out.turn.mono fun b hb => .inl (.inl hb))
        have HST5 := Lib.hid (show StoreAt wr a.sb room now disk log D.age FS from (((HST0.out.1.below HB3.out).keep fun b hb hF => HA4.out.turn.block b hb (HS4.out.apart b (HST0.out.2 b hF)))).keep fun b hb hF => HA.out.turn.block b hb (HS4.out.apart b (HST0.out.2 b hF)))
        have HLK5 := Lib.hid (And.intro HA4.out.like HA.out.like)
        have HCT := Lib.hid (show (D2.addNodes K).nodes + cnt D = D.nodes + cnt (D2.addNodes K) + K from by have h1 := HA4.out.cnt; have h2 := HA.out.cnt; omega)
        clear HA HE hKi
        go_loopw [43] (fun iv wr => ∃ (i : Nat) (now1 : Recs) (log1 : List Value) (G1 : Nat → Prop), iv = .int .i64 (i : Int) ∧ i ≤ n ∧ Hid (Sys wr a (D2.addNodes K) room now1 disk log1 (fun b => F b ∨ G1 b) ∧ StoreAt wr a.sb room now1 disk log1 D.age G1) ∧ Hid (Turn (fun b => a.own b ∨ FS b) w4 wr ∧ ∀ b, G1 b → FS b ∨ w4.heap.size ≤ b) ∧ Hid (usedR now1 ≤ usedR now + 94 * i ∧ log1.length ≤ log.length + 3 * i ∧ now1.length ≤ now.length + i)) (fun iv _ => n + 1 - (intOf iv).toNat)
        case atStart => exact ⟨0, now, log, FS, rfl, by omega, Lib.hid ⟨by rw [HEF.out]; exact HS5.out, HST5.out⟩, Lib.hid ⟨HT5.out, fun b hb => .inl hb⟩, Lib.hid ⟨by omega, by omega, by omega⟩⟩
        case round =>
          obtain ⟨i, now1, log1, G1, rfl, hin, HSYG, HTT, HBB⟩ := hrel
          obtain ⟨F1, hF1⟩ : ∃ F1 : Nat → Prop, F1 = fun b => F b ∨ G1 b := ⟨_, rfl⟩
          have HSY := Lib.hid (show Sys wr a (D2.addNodes K) room now1 disk log1 F1 by rw [hF1]; exact HSYG.out.1)
          have HSTG := Lib.hid HSYG.out.2
          have HFI1 := Lib.hid (show ∀ b, F1 b ↔ F b ∨ G1 b from fun b => by rw [hF1])
          have HFE := Lib.hid hF1
          clear hF1
          by_cases hi : i < n
          · obtain ⟨b, o, rfl, hb, hbo, hbF, hcl⟩ := HCL.out (by omega)
            have hij : i < js.length := by rw [← HN.out]; exact hi
            have dj := (HTT.out.1.cell (p := ⟨b, o + i, none⟩) hb (fun ho => ho.elim hbo (fun hf => hbF (HST0.out.2 b hf)))).trans (hcl i hij)
            have hjj := HJ.out _ (List.getElem_mem hij)
            have hdj := HD4.out _ (List.getElem_mem hij)
            obtain ⟨j, hje⟩ : ∃ j, j = js[i] := ⟨_, rfl⟩
            rw [← hje] at dj hjj hdj
            have HRC := Lib.hid (fun w' (hb : Below wr.heap.size wr w') => by
              have := record_calls (HSY.out.eng.below hb) (HSY.out.glob.keep hb) HSY.out.good j hjj.1 (by show j * D2.size < D2.L.length; rw [HA4.out.like.size, HA4.out.like.L]; exact hjj.2) hdj
              rw [← HEB.out.1] at this
              exact this)
            have HCC := Lib.hid (show ∀ w', Below wr.heap.size wr w' → w'.cell? ⟨eb, 0, none⟩ = some (.pointer (some ⟨sb, 0, none⟩)) ∧ w'.cell? ⟨eb, 9, none⟩ = some (.int .i64 3) from fun w' hb => by
              obtain ⟨lv, rv, sf, ns, hE⟩ := HSY.out.eng.below hb
              have h3 : (D2.addNodes K).space = 3 := HA4.out.like.space.trans HBD.out.2.2.2.2.2
              have h9 := hE.c9
              rw [h3] at h9
              rw [HEB.out.1, HEB.out.2.2]
              exact ⟨hE.c0, h9⟩)
            have hj63 : j < 9223372036854775808 := by omega
            clear hje hcl hb hbo hbF hij hjj hdj
            go_wp2_with fail
            refine wp_region_tree (fun w' => Hid (Below wr.heap.size wr w')) (.hd 0 (.hd 1 (.hd 2 (.hd 3 (.hd 4 (.hd 5 (.hd 6 (.hd 7 (.hd 8 (.hd 9 (.hd 10 (.fk 11 (.fk 12 (.fk 13 .nil .no) .no) .no)))))))))))) (by kernel_rfl) (by kernel_rfl) (fun _ _ d _ _ h => by cases d <;> exact h) (Lib.hid (Below.refl _ wr).drew) ?_
            iterate 11
              refine hdT ?_ ?_ (by rfl) (by rfl) (fun w' s1 => ?_) ?_ ?_
              rotate_left 2
              focus (obtain ⟨d0, d9⟩ := HCC.out w' s1.out; go_simp; exact rfl)
              focus (go_simp; exact rfl)
            refine fkT (by rfl) (by rfl) (fun K' hK => ?_) noT
            go_wp2_with fail
            refine (HRC.out _ (Below.refl _ wr).drew).mono ?_
            rintro r w6 ⟨s, rfl, hs, hb6⟩
            have HB6 := Lib.hid (show Below wr.heap.size wr w6 from (Below.refl _ wr).drew.trans hb6)
            have hpt := bookPut_calls 3 5 j (by decide) (by decide) (by decide) hj63 s (by omega) (show StoreAt w6 a.sb room now1 disk log1 D.age G1 from HSTG.out.below HB6.out) (by have := HBB.out.1; have := HBD.out.2.2.1; omega) (by have := HBB.out.2.1; have := HBD.out.2.2.2.1; omega) (by have := HBB.out.2.2; have := HBD.out.2.2.2.2.1; omega)
            rw [← HEB.out.2.2] at hpt
            have HPT := Lib.hid hpt
            have HSS := Lib.hid hs
            refine hK _ _ (Lib.hid HB6.out) ?_
            clear hK hb6 hs hpt dj
            refine fkTn (by kernel_rfl) (by rfl) (by rfl) (fun K' hK => ?_) noT
            go_wp2_with fail
            refine (HPT.out).mono ?_
            rintro r w7 ⟨rfl, G2, hst, hgo⟩
            have HS7 := Lib.hid (show Sys w7 a (D2.addNodes K) room (putR now1 (keyB 3 5 j) (frameV 5 j s)) disk (log1 ++ ([.string (keyB 3 5 j), .string (frameV 5 j s), .bool false] : List Value)) (fun b => F b ∨ G2 b) ∧ StoreAt w7 a.sb room (putR now1 (keyB 3 5 j) (frameV 5 j s)) disk (log1 ++ ([.string (keyB 3 5 j), .string (frameV 5 j s), .bool false] : List Value)) D.age G2 from
              ⟨(HSY.out.below HB6.out).wrote (by rw [show (D2.addNodes K).age = D.age from HA4.out.like.age, ← HEB.out.2.2]; exact hst.mono fun b _ hb => .inr hb) ⟨hgo.turn.mono fun b hb => .inl ((HFI1.out b).2 (.inr hb)), fun b hb => hb.elim (fun h1 => .inl ((HFI1.out b).2 (.inl h1))) (fun h1 => (hgo.own b h1).imp (fun h2 => (HFI1.out b).2 (.inr h2)) _root_.id), fun b hb => hb.elim (fun h1 => Nat.lt_of_lt_of_le ((HSY.out.below HB6.out).low b ((HFI1.out b).2 (.inl h1))) hgo.turn.size) (hgo.low b)⟩, by rw [← HEB.out.2.2]; exact hst⟩)
            have HTT7 := Lib.hid (show Turn (fun b => a.own b ∨ FS b) w4 w7 ∧ ∀ b, G2 b → FS b ∨ w4.heap.size ≤ b from
              ⟨(HTT.out.1.trans (Turn.of_below HB6.out)).trans' (hgo.turn) (fun b hb => (HTT.out.2 b hb).imp .inr _root_.id), fun b hb => (hgo.own b hb).elim (fun h1 => HTT.out.2 b h1) (fun h1 => .inr (Nat.le_trans (Nat.le_trans HTT.out.1.size HB6.out.size) h1))⟩)
            have HBB7 := Lib.hid (show usedR (putR now1 (keyB 3 5 j) (frameV 5 j s)) ≤ usedR now + 94 * (i + 1) ∧ (log1 ++ ([.string (keyB 3 5 j), .string (frameV 5 j s), .bool false] : List Value)).length ≤ log.length + 3 * (i + 1) ∧ (putR now1 (keyB 3 5 j) (frameV 5 j s)).length ≤ now.length + (i + 1) from by
              have h1 := usedR_put now1 (keyB 3 5 j) (frameV 5 j s)
              have h2 : costK (keyB 3 5 j) (frameV 5 j s) = s.size + 52 := by unfold costK; rw [keyB_size, frameV_size]; omega
              have h3 := putR_len_le' now1 (keyB 3 5 j) (frameV 5 j s)
              have h4 := HBB.out
              have h5 := HSS.out
              refine ⟨by omega, by simp; omega, by omega⟩)
            refine hK _ _ ?_
            clear hK hst hgo
            refine fkTn (by kernel_rfl) (by rfl) (by rfl) (fun K' hK => ?_) noT
            go_wp2_with fail
            refine nilT ?_
            go_wp2
            exact ⟨⟨i + 1, _, _, G2, by congr 1, by omega, HS7, HTT7, HBB7⟩, by simp [intOf]; omega⟩
          · have hS := HSY.out
            obtain ⟨lv, rv, sf, ns, hE⟩ := hS.eng
            have c13 : wr.cell? ⟨eb, 13, none⟩ = some (.map (some ub)) := by rw [HEB.out.1, HEB.out.2.1]; exact hE.c13
            obtain ⟨w6, hrun, hM6, hT6⟩ := MapF.clear hE.unwrM (t := 85) (e := 4) Tryz.underlying85 0
            rw [← HEB.out.2.1] at hrun
            have hM6' : IntMap Tryz.prog 3 w6 a.ub (fun _ => none) := by
              unfold IntMap
              rw [cntN_none]
              exact hM6.ext fun l => by unfold intF; split <;> simp
            have hfl := hE.flushed hM6' (mapTurned_turn hT6)
            have HFIN := Lib.hid (show FlushLeft w w6 a D (D2.addNodes K).flushed room now now1 disk log log1 F FS G1 K 1800 from
              { sys := by
                  rw [← HFE.out]
                  exact ⟨⟨_, _, _, _, hfl.1⟩, hS.sto.keep fun b hb hF => hfl.2.block b hb (hS.apart b hF), fun b hb => Nat.lt_of_lt_of_le (hS.low b hb) hfl.2.size, hS.apart, hS.good.flushed, hS.glob.turn hfl.2 hS.eng.glb, hS.gf⟩
                sto := by rw [show (D2.addNodes K).flushed.age = D.age from HA4.out.like.age]; exact HSTG.out.keep fun b hb hF => hfl.2.block b hb (hS.apart b ((HFI1.out b).2 (.inr hF)))
                W := HLK5.out.2.W.trans HLK5.out.1.W
                B := HLK5.out.2.B.trans HLK5.out.1.B
                L := HLK5.out.2.L.trans HLK5.out.1.L
                space := HLK5.out.2.space.trans HLK5.out.1.space
                cnt := HCT.out
                unwr := fun j hj => by cases hj
                used := by have := HBB.out.1; omega
                logs := by have := HBB.out.2.1; omega
                many := by have := HBB.out.2.2; omega
                turn := ((Turn.of_below HB3.out).trans (HA4.out.turn.mono fun b hb => .inl (.inl hb))).trans' (HTT.out.1.trans (hfl.2.mono fun b hb => .inl (.inl hb))) (fun b hb => .inl hb)
                own := fun b hb => (HTT.out.2 b hb).imp _root_.id (fun h1 => Nat.le_trans (Nat.le_trans HB3.out.size HA4.out.turn.size) h1) })
            clear hS hE hM6 hT6 hM6' hfl
            go_wp2
            go_ret
            exact ⟨rfl, _, now1, log1, G1, K, HKB.out, HFIN.out⟩
end
end Go.Proofs.YtblkehdpenfhjaaGreatDoor
/-
  An engine that is given leaves, asked and flushed, in whatever order.
-/
set_option linter.unusedVariables false
set_option linter.unusedSimpArgs false
namespace Go.Proofs.YtblkehdpenfhjaaGreatDoor
open Go.RowKit Go.Maps Go.ChangeMaps Go.MapKept

section
variable {w w' w0 : World} {a : EA} {W B i r : Nat} {L : List ByteArray} {D : ED} {now disk : Recs} {log : List Value} {F FS : Nat → Prop}
/-- a row of F, not of the store, grew; the block in which it lies now is of F from now on -/
theorem Sys.grew {room : Nat} {row : Option Nat} {g : Nat} (h : Sys w a D room now disk log F) (hgr : w.grownBy w' row) (hrow : ∀ b, row = some b → F b) (hst : StoreAt w' a.sb room now disk log D.age F) (hg : row = some g ∨ g = w.heap.size) (hlt : g < w'.heap.size) :
    Sys w' a D room now disk log (fun b => F b ∨ b = g) := by
  have hnew : ∀ b, b = g → F b ∨ b = w.heap.size := fun b hb => hg.elim (fun h1 => .inl (hrow b (by rw [hb]; exact h1))) (fun h1 => .inr (hb.trans h1))
  have ht : Turn F w w' := ⟨hgr.os, hgr.tape, hgr.output, hgr.size, fun k hk hF => hgr.block k hk (fun e => hF (hrow k e.symm))⟩
  refine ⟨(h.eng.mono (Y := fun b => ¬ a.own b ∧ ¬ (F b ∨ b = g)) (fun b hb hX => ⟨hX.1, fun hf => hf.elim hX.2 (fun e => (hnew b e).elim hX.2 (fun e2 => by omega))⟩) (fun b hb => hb.1)).keep hgr.size fun b hb ho => ht.block b hb (fun hF => ho.elim (h.apart b hF) (fun hX => hX.2 (.inl hF))), hst.mono fun b _ hb => .inl hb, fun b hb => hb.elim (fun h1 => Nat.lt_of_lt_of_le (h.low b h1) hgr.size) (fun e => by rw [e]; exact hlt), fun b hb => hb.elim (h.apart b) (fun e ho => (hnew b e).elim (fun h1 => h.apart b h1 ho) (fun e2 => by have := h.eng.low ho; omega)), h.good, h.glob.turn ht h.gf, fun b hb hf => hf.elim (h.gf b hb) (fun e => (hnew b e).elim (h.gf b hb) (fun e2 => h.glob.new (by omega) hb))⟩
/-- behind i Appends and Flushes and r Roots; F holds the store's blocks (FS) and blocks of the caller's -/
structure ListS (w0 w : World) (a : EA) (W B : Nat) (L : List ByteArray) (i r : Nat) (D : ED) (now : Recs) (log : List Value) (F FS : Nat → Prop) : Prop where
  sys : Sys w a D 536870912 now [] log F
  sto : StoreAt w a.sb 536870912 now [] log D.age FS
  sub : ∀ b, FS b → F b
  W : D.W = W
  B : D.B = B
  L : D.L = L
  space : D.space = 3
  nodes : D.nodes ≤ cnt D + 120000 * i + 62 * r
  unwr : ∀ j, D.unwr j = true → j * D.size < D.L.length
  used : usedR now ≤ 700000 * i
  logs : log.length ≤ 6000 * i
  many : now.length ≤ 2000 * i
  far : ∀ b, a.own b ∨ F b → w0.heap.size ≤ b
  below : Below w0.heap.size w0 w
theorem Grew.listS (h : Grew w0 w a W B L 0 D now log F) : ListS w0 w a W B L 0 0 D now log F F :=
  ⟨h.sys, h.sys.sto, fun b hb => hb, h.fresh.W, h.fresh.B, h.fresh.L, h.fresh.space, by rw [h.fresh.nodes]; omega, h.fresh.unwr, by have := h.used; omega, by have := h.logs; omega, by have := h.many; omega, h.far, h.below⟩
theorem ListS.asked {D' : ED} {k : Nat} (h : ListS w0 w a W B L i r D now log F FS) (hq : Asked w w' a D D' (fun b => ¬ a.own b ∧ ¬ F b) k) {r' : Nat} (hk : k + 62 * r ≤ 62 * r') : ListS w0 w' a W B L i r' D' now log F FS :=
  ⟨h.sys.asked hq, by rw [hq.like.age]; exact h.sto.keep fun b hb hF => hq.turn.block b hb (h.sys.apart b (h.sub b hF)), h.sub, hq.like.W.trans h.W, hq.like.B.trans h.B, hq.like.L.trans h.L, hq.like.space.trans h.space, by have := hq.cnt; have := h.nodes; omega, by rw [hq.like.unwr, hq.like.size, hq.like.L]; exact h.unwr, h.used, h.logs, h.many, h.far,
    (Turn.trans' (Turn.of_below h.below) hq.turn fun b hb => .inr (h.far b (.inl hb))).below (fun k hk => hk) (Nat.le_refl _)⟩
theorem ListS.keep (h : ListS w0 w a W B L i r D now log F FS) (hb : Below w.heap.size w w') : ListS w0 w' a W B L i r D now log F FS :=
  ⟨h.sys.below hb, h.sto.below hb, h.sub, h.W, h.B, h.L, h.space, h.nodes, h.unwr, h.used, h.logs, h.many, h.far, h.below.trans (hb.mono h.below.size)⟩
theorem ListS.more (h : ListS w0 w a W B L i r D now log F FS) {r' : Nat} (hr : r ≤ r') : ListS w0 w a W B L i r' D now log F FS :=
  ⟨h.sys, h.sto, h.sub, h.W, h.B, h.L, h.space, by have := h.nodes; omega, h.unwr, h.used, h.logs, h.many, h.far, h.below⟩
theorem ListS.grew {row : Option Nat} {g : Nat} (h : ListS w0 w a W B L i r D now log F FS) (hgr : w.grownBy w' row) (hrow : ∀ b, row = some b → F b ∧ ¬ FS b) (hg : row = some g ∨ g = w.heap.size) (hlt : g < w'.heap.size) :
    ListS w0 w' a W B L i r D now log (fun b => F b ∨ b = g) FS ∧ ¬ FS g := by
  have hs : StoreAt w' a.sb 536870912 now [] log D.age FS := h.sto.keep fun b hb hF => hgr.block b hb (fun e => (hrow b e.symm).2 hF)
  refine ⟨⟨h.sys.grew hgr (fun b hb => (hrow b hb).1) (hs.mono fun b _ hb => h.sub b hb) hg hlt, hs, fun b hb => .inl (h.sub b hb), h.W, h.B, h.L, h.space, h.nodes, h.unwr, h.used, h.logs, h.many, fun b hb => ?_, ?_⟩, fun hf => ?_⟩
  · rcases hb with hb | hb | hb
    · exact h.far b (.inl hb)
    · exact h.far b (.inr hb)
    · rcases hg with hg | hg
      · exact h.far b (.inr (hrow b (by rw [hb]; exact hg)).1)
      · have := h.below.size; omega
  · have ht : Turn F w w' := ⟨hgr.os, hgr.tape, hgr.output, hgr.size, fun k hk hF => hgr.block k hk (fun e => hF (hrow k e.symm).1)⟩
    exact (Turn.trans' (Turn.of_below h.below) ht fun b hb => .inr (h.far b (.inr hb))).below (fun k hk => hk) (Nat.le_refl _)
  · rcases hg with hg | hg
    · exact (hrow g hg).2 hf
    · have := h.sys.low g (h.sub g hf); omega
theorem ListS.room (h : ListS w0 w a W B L i r D now log F FS) (hL : L.length ≤ 1800) (hi : i ≤ 100) (hr : r ≤ 1000) : D.nodes + D.most + 200000 ≤ 1152921504606846976 + cnt D := by
  have h1 := h.nodes
  have h2 := cnt_le D
  unfold ED.most at h2 ⊢
  rw [h.L, h.B] at h2 ⊢
  have h3 : L.length / 2 ^ B ≤ L.length := Nat.div_le_self _ _
  omega
theorem ListS.append (h : ListS w0 w a W B L i r D now log F FS) (xs : List ByteArray) (hx : ∀ x ∈ xs, x.size ≤ 4096) (h0 : 0 < xs.length) (hl : xs.length ≤ 60) (hL : L.length + xs.length ≤ 1800) (hi : i ≤ 100) (hr : r ≤ 1000) {A : Option Addr} {cap : Nat} {Z : Nat → Prop}
    (hv : SlIn w (.slice A xs.length cap) (xs.map Value.string) Z) (hZ : ∀ b, Z b → ¬ a.own b ∧ ¬ F b) :
    Calls Tryz.prog 19 #[.pointer (some ⟨a.eb, 0, none⟩), .slice A xs.length cap] w fun e w' => e = .returned (.int .i64 0) ∧ ∃ D' now' log' F' FS', ListS w0 w' a W B (L ++ xs) (i + 1) r D' now' log' F' FS' ∧ Turn (fun b => a.own b ∨ FS b) w w' ∧ (∀ b, F b → F' b) ∧ (∀ b, FS' b → FS b ∨ w.heap.size ≤ b) := by
  have hus := h.used
  have hlg := h.logs
  have hmn := h.many
  refine (append_callsG h.sys h.sto h.sub xs hx h0 (by omega) (by rw [h.L]; omega) hv hZ (by omega) (by omega) (by omega)).mono ?_
  rintro e w1 ⟨he, F', k, m, g1, g2, g3, g4, g5, g6, g7, g8⟩
  have hT : Turn F w w1 ∨ True := .inr trivial
  refine ⟨he, (D.grown xs).marks (touchedL D m), _, _, _, F', ⟨g3, ?_, fun b hb => .inr hb, ?_, ?_, ?_, ?_, ?_, fun j hj => ?_, ?_, ?_, ?_, fun b hb => ?_, ?_⟩, g5, fun b hb => .inl hb, g6⟩
  · rw [marks_eq]; exact g4
  · rw [marks_eq]; exact h.W
  · rw [marks_eq]; exact h.B
  · rw [marks_eq]; show D.L ++ xs = L ++ xs; rw [h.L]
  · rw [marks_eq]; exact h.space
  · have h1 := h.nodes
    have h2 := cnt_le D
    unfold ED.most at h2
    rw [h.L, h.B] at h2
    have h3 : L.length / 2 ^ B ≤ L.length := Nat.div_le_self _ _
    have h4 : ((D.grown xs).marks (touchedL D m)).nodes = D.nodes := by rw [marks_eq]; rfl
    rw [h4]
    omega
  · rw [marks_eq] at hj ⊢
    have hj' : (decide (j ∈ touchedL D m) || D.unwr j) = true := hj
    show j * D.size < (D.L ++ xs).length
    rw [List.length_append]
    rw [Bool.or_eq_true, decide_eq_true_eq] at hj'
    rcases hj' with h1 | h1
    · exact g8 j h1
    · have := h.unwr j h1; omega
  · have h1 := usedA D (D.L ++ xs) (fun x hx' => (List.mem_append.1 hx').elim (h.sys.eng.ok.small x) (hx x)) D.first now k
    have h2 := D.first_le
    have h3 := D.part_le
    rw [List.length_append] at h1
    have h5 : min (k * D.part) (D.L.length + xs.length - D.first) ≤ 123 := by omega
    omega
  · rw [logA_len]; omega
  · have := recsA_len D (D.L ++ xs) D.first now k; omega
  · rcases hb with hb | hb | hb
    · exact h.far b (.inl hb)
    · exact h.far b (.inr hb)
    · rcases g6 b hb with hb | hb
      · exact h.far b (.inr (h.sub b hb))
      · have := h.below.size; omega
  · exact (Turn.trans' (Turn.of_below h.below) g5 fun b hb => .inr (h.far b (hb.imp _root_.id (h.sub b)))).below (fun k hk => hk) (Nat.le_refl _)
theorem ListS.flush (h : ListS w0 w a W B L i r D now log F FS) (hL : L.length ≤ 1800) (hi : i ≤ 100) (hr : r ≤ 1000) :
    Calls Tryz.prog 26 #[.pointer (some ⟨a.eb, 0, none⟩)] w fun e w' => e = .returned (.int .i64 0) ∧ ∃ D' now' log' F' FS', ListS w0 w' a W B L (i + 1) r D' now' log' F' FS' ∧ Turn (fun b => a.own b ∨ FS b) w w' ∧ (∀ b, F b → F' b) ∧ (∀ b, FS' b → FS b ∨ w.heap.size ≤ b) := by
  have hus := h.used
  have hlg := h.logs
  have hmn := h.many
  refine (flush_callsG h.sys h.sto h.sub h.space h.unwr (by rw [h.L]; exact hL) (h.room hL hi hr) (by omega) (by omega) (by omega)).mono ?_
  rintro e w1 ⟨he, D', now', log', F', k, hk, hf⟩
  have hno := h.nodes
  refine ⟨he, D', now', log', _, F', ⟨hf.sys, hf.sto, fun b hb => .inr hb, hf.W.trans h.W, hf.B.trans h.B, hf.L.trans h.L, hf.space.trans h.space, by have := hf.cnt; omega, hf.unwr, by have := hf.used; omega, by have := hf.logs; omega, by have := hf.many; omega, fun b hb => ?_, ?_⟩, hf.turn, fun b hb => .inl hb, hf.own⟩
  · rcases hb with hb | hb | hb
    · exact h.far b (.inl hb)
    · exact h.far b (.inr hb)
    · rcases hf.own b hb with hb | hb
      · exact h.far b (.inr (h.sub b hb))
      · have := h.below.size; omega
  · exact (Turn.trans' (Turn.of_below h.below) hf.turn fun b hb => .inr (h.far b (hb.imp _root_.id (h.sub b)))).below (fun k hk => hk) (Nat.le_refl _)
theorem ListS.node (h : ListS w0 w a W B L i r D now log F FS) (hL : L.length ≤ 1800) (hi : i ≤ 100) (hr : r ≤ 1000) (x y : Int) :
    Calls Tryz.prog 16 #[.pointer (some ⟨a.eb, 0, none⟩), addrV x y] w fun e w' => e = .returned (.tuple #[.string (nodeA W L x y).1, .int .i64 (nodeA W L x y).2]) ∧ ∃ D', ListS w0 w' a W B L i r D' now log F FS ∧ Turn a.own w w' := by
  have := engNode_calls h.sys.eng h.sys.sto h.sys.glob h.sys.good h.sys.new (by have := h.room hL hi hr; omega) x y
  rw [h.W, h.L] at this
  exact this.mono fun e w' ⟨h1, D', h2, h3, h4⟩ => ⟨h1, D', h.asked h2 (by omega), h2.turn⟩
theorem ListS.root (h : ListS w0 w a W B L i r D now log F FS) (hL : L.length ≤ 1800) (hi : i ≤ 100) (hr : r ≤ 1000) (n : Int) :
    Calls Tryz.prog 18 #[.pointer (some ⟨a.eb, 0, none⟩), .int .i64 n] w fun e w' => e = .returned (.tuple #[.string (rootA W L n).1, .int .i64 (rootA W L n).2]) ∧ ∃ D', ListS w0 w' a W B L i (r + 1) D' now log F FS ∧ Turn a.own w w' := by
  unfold rootA
  by_cases hn : 0 ≤ n ∧ n ≤ L.length
  · rw [if_pos hn]
    obtain ⟨m, rfl⟩ := Int.eq_ofNat_of_zero_le hn.1
    have := engRoot_yes h.sys.eng h.sys.sto h.sys.glob h.sys.good h.sys.new (by have := h.room hL hi hr; omega) m (by rw [h.L]; omega)
    rw [h.W, h.L] at this
    exact this.mono fun e w' ⟨h1, D', k, hk, h2⟩ => ⟨h1, D', h.asked h2 (by omega), h2.turn⟩
  · rw [if_neg hn]
    have := engRoot_no h.sys.eng h.sys.sto n (by rw [h.L]; omega)
    exact this.mono fun e w' ⟨h1, m, h2⟩ => ⟨h1, D, (h.keep (by rw [h2]; exact below_drewN (Below.refl _ _) m)).more (by omega), by rw [h2]; exact Turn.of_below (below_drewN (Below.refl _ _) m)⟩
theorem ListS.leaf (h : ListS w0 w a W B L i r D now log F FS) (n : Int) :
    Calls Tryz.prog 22 #[.pointer (some ⟨a.eb, 0, none⟩), .int .i64 n] w fun e w' => e = .returned (.tuple #[.string (leafA L n).1, .int .i64 (leafA L n).2]) ∧ ∃ m, w' = w.drewN m := by
  obtain ⟨lv, rv, sf, ns, hE⟩ := h.sys.eng
  unfold leafA
  by_cases hn : 0 ≤ n ∧ n < L.length
  · rw [if_pos hn]
    obtain ⟨m, rfl⟩ := Int.eq_ofNat_of_zero_le hn.1
    have := engLeaf_calls hE h.sys.sto m (by rw [h.L]; omega)
    refine this.mono fun e w' ⟨h1, h2⟩ => ⟨?_, h2⟩
    rw [h1]
    have hm : m < L.length := by omega
    simp [h.L, List.getD_eq_getElem?_getD, hm]
  · rw [if_neg hn]
    exact engLeaf_no hE h.sys.sto n (by rw [h.L]; omega)
theorem ListS.size (h : ListS w0 w a W B L i r D now log F FS) :
    Calls Tryz.prog 15 #[.pointer (some ⟨a.eb, 0, none⟩)] w fun e w' => e = .returned (.int .i64 (L.length : Int)) ∧ w = w' := by
  have := engSize_calls h.sys.eng
  rw [h.L] at this
  exact this
end
end Go.Proofs.YtblkehdpenfhjaaGreatDoor
/-
  The laws' own functions: tells.
-/
set_option linter.unusedVariables false
set_option linter.unusedSimpArgs false
namespace Go.Proofs.YtblkehdpenfhjaaGreatDoor
open Go.RowKit Go.Maps Go.ChangeMaps Go.MapKept

section
variable {w w' w0 : World} {a : EA} {W B i r : Nat} {L : List ByteArray} {D : ED} {now : Recs} {log : List Value} {F FS : Nat → Prop}
set_option maxHeartbeats 16000000 in
set_option maxRecDepth 100000 in
theorem tells_calls (h : ListS w0 w a W B L i r D now log F FS) (hL : L.length ≤ 1800) (hi : i ≤ 100) (hr : r ≤ 900) {A : Option Addr} {cap : Nat} {Z : Nat → Prop} (hv : SlIn w (.slice A L.length cap) (L.map Value.string) Z) (hZ : ∀ b, Z b → ¬ a.own b) (n : Int) :
    Calls Tryz.prog 27 #[.pointer (some ⟨a.eb, 0, none⟩), .int .i64 W, .slice A L.length cap, .int .i64 n] w fun e w' => e = .returned (.bool true) ∧ ∃ D', ListS w0 w' a W B L i (r + 3) D' now log F FS ∧ Turn a.own w w' := by
  obtain ⟨A', cap', hve, hcap, hcells⟩ := hv
  rw [List.length_map] at hve
  injection hve with e1 e2 e3
  subst e1
  subst e3
  rw [List.length_map] at hcap
  have hx : ∀ x ∈ L, x.size ≤ 4096 := by have := h.sys.eng.ok.small; rw [h.L] at this; exact this
  have HCL := Lib.hid (show 0 < L.length → ∃ b o, A = some ⟨b, o, none⟩ ∧ b < w.heap.size ∧ ¬ a.own b ∧ ∀ i (h : i < L.length), w.cell? ⟨b, o + i, none⟩ = some (.string L[i]) from fun h => by
    obtain ⟨b, o, g1, g2, g3, g4⟩ := hcells (by rw [List.length_map]; exact h)
    exact ⟨b, o, g1, g2, hZ b g3, fun i hi => by rw [g4 i (by rw [List.length_map]; exact hi), List.getElem_map]⟩)
  have HROW := Lib.hid (show ∀ w', Turn a.own w w' → ∀ k, k ≤ L.length → RowAt w' A L 0 k from fun w' ht k hk h0 => by
    obtain ⟨b, o, g1, g2, g3, g4⟩ := HCL.out (by omega)
    refine ⟨b, o, g1, Nat.lt_of_lt_of_le g2 ht.size, fun i hi => ?_⟩
    rw [(ht.cell (p := ⟨b, o + i, none⟩) g2 g3).trans (g4 i (by omega)), Nat.zero_add, List.getD_eq_getElem?_getD, List.getElem?_eq_getElem (by omega)]
    rfl)
  have HMR := Lib.hid (show ∀ w' D' r', ListS w0 w' a W B L i r' D' now log F FS → Turn a.own w w' → ∀ k, k ≤ L.length → Calls Tryz.prog 83 #[.int .i64 W, .slice A k cap] w' fun e w'' => e = .returned (.string (rootF W L k)) ∧ Below w'.heap.size w' w'' from fun w' D' r' h' ht k hk => by
    have := mthRoot_calls W L hx k (by omega) 0 cap w' A (by omega) (HROW.out w' ht k hk) h'.sys.glob
    rw [← rootF_mth W L k (by omega)] at this
    exact this)
  have HRT := Lib.hid (show ∀ w' D' r', r' ≤ 1000 → ListS w0 w' a W B L i r' D' now log F FS → ∀ n : Int, Calls Tryz.prog 18 #[.pointer (some ⟨a.eb, 0, none⟩), .int .i64 n] w' fun e w'' => e = .returned (.tuple #[.string (rootA W L n).1, .int .i64 (rootA W L n).2]) ∧ ∃ D', ListS w0 w'' a W B L i (r' + 1) D' now log F FS ∧ Turn a.own w' w'' from fun w' D' r' hr' h' n => h'.root hL hi hr' n)
  have HRA := Lib.hid (show (∀ k : Nat, k ≤ L.length → rootA W L (k : Int) = (rootF W L k, 0)) ∧ rootA W L ((L.length : Int) + 1) = (⟨#[]⟩, 80) ∧ leafA L (L.length : Int) = (⟨#[]⟩, 81) from ⟨fun k hk => by unfold rootA; rw [if_pos ⟨by omega, by omega⟩]; rfl, by unfold rootA; rw [if_neg (by omega)], by unfold leafA; rw [if_neg (by omega)]⟩)
  have HLA := Lib.hid (show ∀ k (h : k < L.length), leafA L (k : Int) = (L[k], 0) from fun k hk => by unfold leafA; rw [if_pos ⟨by omega, by omega⟩]; simp [List.getD_eq_getElem?_getD, hk])
  have HSZ := Lib.hid h.size
  have HLF := Lib.hid (show ∀ w' D' r', ListS w0 w' a W B L i r' D' now log F FS → ∀ n : Int, Calls Tryz.prog 22 #[.pointer (some ⟨a.eb, 0, none⟩), .int .i64 n] w' fun e w'' => e = .returned (.tuple #[.string (leafA L n).1, .int .i64 (leafA L n).2]) ∧ ∃ m, w'' = w'.drewN m from fun w' D' r' h' n => h'.leaf n)
  have H0 := Lib.hid h
  obtain ⟨eb, heb⟩ : ∃ x, x = a.eb := ⟨_, rfl⟩
  rw [← heb] at HRT HSZ HLF ⊢
  obtain ⟨nL, hnL⟩ : ∃ x, x = L.length := ⟨_, rfl⟩
  have HNL := Lib.hid hnL
  rw [← hnL] at HSZ HRA hcap hL ⊢
  clear hcells hZ hx h heb hnL
  go_enter Tryz.func27, Tryz.ntmps27
  go_wp2_with fail
  refine (HSZ.out).mono ?_
  rintro e w1 ⟨rfl, rfl⟩
  go_wp2_with fail
  go_loopw [9] (fun iv wr => ∃ (k : Nat), iv = .int .i64 (k : Int) ∧ k ≤ nL ∧ Hid (ListS w0 wr a W B L i r D now log F FS ∧ Turn a.own w wr)) (fun iv _ => nL + 1 - (intOf iv).toNat)
  case atStart => exact ⟨0, rfl, by omega, Lib.hid ⟨H0.out, Turn.refl _ _⟩⟩
  case round =>
    obtain ⟨k, rfl, hk, HI⟩ := hrel
    by_cases hlt : k < nL
    · obtain ⟨b, o, rfl, hb, hbo, hcl⟩ := HCL.out (by rw [← HNL.out]; omega)
      have hkL : k < L.length := by rw [← HNL.out]; exact hlt
      have hlf := HLF.out wr D r HI.out.1 (k : Int)
      rw [HLA.out k hkL] at hlf
      have dk : ∀ m, (wr.drewN m).cell? ⟨b, o + k, none⟩ = some (.string L[k]) := fun m => (HI.out.2.cell (p := ⟨b, o + k, none⟩) hb hbo).trans (hcl k hkL)
      obtain ⟨x, hxx⟩ : ∃ x, x = L[k] := ⟨_, rfl⟩
      rw [← hxx] at hlf dk
      have HLF2 := Lib.hid hlf
      clear hlf hxx hcl hb hbo hkL
      go_wp2_with fail
      refine (HLF2.out).mono ?_
      rintro e w2 ⟨rfl, m, rfl⟩
      have dk2 := dk m
      have HI2 := Lib.hid (show ListS w0 (wr.drewN m) a W B L i r D now log F FS ∧ Turn a.own w (wr.drewN m) from ⟨HI.out.1.keep (below_drewN (Below.refl _ _) m), HI.out.2.trans (Turn.of_below (below_drewN (Below.refl _ _) m))⟩)
      clear dk
      go_wp2_with fail
      refine (num_calls 0 _).mono ?_
      rintro e w3 ⟨rfl, rfl⟩
      go_wp2
      exact ⟨⟨k + 1, by congr 1, by omega, HI2⟩, by simp [intOf]; omega⟩
    · by_cases hc : 0 ≤ n ∧ n ≤ (nL : Int)
      · obtain ⟨kk, hkk⟩ := Int.eq_ofNat_of_zero_le hc.1
        have hkl : kk ≤ nL := by omega
        have k1 : decide ((0 : Int) ≤ (kk : Int)) = true := decide_eq_true (by omega)
        have k2 : decide ((kk : Int) ≤ (nL : Int)) = true := decide_eq_true (by omega)
        subst hkk
        clear hc
        have hrt := HRT.out wr D r (by omega) HI.out.1 (kk : Int)
        rw [show rootA W L (kk : Int) = (rootF W L kk, 0) from HRA.out.1 kk hkl] at hrt
        obtain ⟨s1, hs1⟩ : ∃ x, x = rootF W L kk := ⟨_, rfl⟩
        rw [← hs1] at hrt
        have HS1 := Lib.hid hs1
        have HRT1 := Lib.hid hrt
        clear hrt hs1
        go_wp2_with fail
        refine (HRT1.out).mono ?_
        rintro e w2 ⟨rfl, D2, hA2, hT2⟩
        have HI2 := Lib.hid (And.intro hA2 (HI.out.2.trans hT2))
        have hrt := HRT.out w2 D2 (r + 1) (by omega) hA2 (nL : Int)
        rw [HRA.out.1 nL (Nat.le_refl _)] at hrt
        obtain ⟨s2, hs2⟩ : ∃ x, x = rootF W L nL := ⟨_, rfl⟩
        rw [← hs2] at hrt
        have HS2 := Lib.hid hs2
        have HRT2 := Lib.hid hrt
        clear hrt hs2 hA2 hT2
        go_wp2_with fail
        refine (HRT2.out).mono ?_
        rintro e w3 ⟨rfl, D3, hA3, hT3⟩
        have HI3 := Lib.hid (And.intro hA3 (HI2.out.2.trans hT3))
        have hrt := HRT.out w3 D3 (r + 1 + 1) (by omega) hA3 ((nL : Int) + 1)
        rw [HRA.out.2.1] at hrt
        have HRT3 := Lib.hid hrt
        clear hrt hA3 hT3
        go_wp2_with fail
        refine (HRT3.out).mono ?_
        rintro e w4 ⟨rfl, D4, hA4, hT4⟩
        have HI4 := Lib.hid (And.intro hA4 (HI3.out.2.trans hT4))
        have hlf := HLF.out w4 D4 _ hA4 (nL : Int)
        rw [HRA.out.2.2] at hlf
        have HLF4 := Lib.hid hlf
        clear hlf hA4 hT4
        go_wp2_with fail
        refine (HLF4.out).mono ?_
        rintro e w5 ⟨rfl, m, hw5⟩
        have HI5 := Lib.hid (show ListS w0 w5 a W B L i (r + 1 + 1 + 1) D4 now log F FS ∧ Turn a.own w w5 from by
          rw [hw5]
          exact ⟨HI4.out.1.keep (below_drewN (Below.refl _ _) m), HI4.out.2.trans (Turn.of_below (below_drewN (Below.refl _ _) m))⟩)
        clear hw5
        go_wp2_with fail
        refine (num_calls 0 w5).mono ?_
        rintro e w6 ⟨rfl, rfl⟩
        go_wp2_with fail
        refine (num_calls 0 w5).mono ?_
        rintro e w6 ⟨rfl, rfl⟩
        go_wp2_with fail
        have hm1 := HMR.out w5 D4 _ HI5.out.1 HI5.out.2 kk (by rw [← HNL.out]; exact hkl)
        rw [← HS1.out] at hm1
        have HM1 := Lib.hid hm1
        clear hm1
        refine (HM1.out).mono ?_
        rintro e w6 ⟨rfl, hb6⟩
        have HI6 := Lib.hid (And.intro (HI5.out.1.keep hb6) (HI5.out.2.trans (Turn.of_below hb6)))
        have hm2 := HMR.out w6 D4 _ HI6.out.1 HI6.out.2 nL (by rw [← HNL.out]; exact Nat.le_refl _)
        rw [← HS2.out] at hm2
        have HM2 := Lib.hid hm2
        clear hm2 hb6
        go_wp2_with fail
        refine (HM2.out).mono ?_
        rintro e w7 ⟨rfl, hb7⟩
        have HI7 := Lib.hid (And.intro (HI6.out.1.keep hb7) (HI6.out.2.trans (Turn.of_below hb7)))
        clear hb7
        go_wp2_with fail
        refine (num_calls 80 w7).mono ?_
        rintro e w8 ⟨rfl, rfl⟩
        go_wp2_with fail
        refine (num_calls 81 w7).mono ?_
        rintro e w8 ⟨rfl, rfl⟩
        go_wp2
        go_ret
        exact ⟨rfl, D4, HI7.out.1, HI7.out.2⟩
      · have HC0 := Lib.hid (show (0 : Nat) ≤ nL from Nat.zero_le _)
        by_cases h0 : 0 ≤ n
        · have k1 : decide ((0 : Int) ≤ n) = true := decide_eq_true h0
          have k2 : decide (n ≤ (nL : Int)) = false := decide_eq_false (by omega)
          clear hc h0
          have hrt := HRT.out wr D r (by omega) HI.out.1 (0 : Int)
          rw [show rootA W L (0 : Int) = (rootF W L 0, 0) from HRA.out.1 0 (Nat.zero_le _)] at hrt
          obtain ⟨s1, hs1⟩ : ∃ x, x = rootF W L 0 := ⟨_, rfl⟩
          rw [← hs1] at hrt
          have HS1 := Lib.hid hs1
          have HRT1 := Lib.hid hrt
          clear hrt hs1
          go_wp2_with fail
          refine (HRT1.out).mono ?_
          rintro e w2 ⟨rfl, D2, hA2, hT2⟩
          have HI2 := Lib.hid (And.intro hA2 (HI.out.2.trans hT2))
          have hrt := HRT.out w2 D2 (r + 1) (by omega) hA2 (nL : Int)
          rw [HRA.out.1 nL (Nat.le_refl _)] at hrt
          obtain ⟨s2, hs2⟩ : ∃ x, x = rootF W L nL := ⟨_, rfl⟩
          rw [← hs2] at hrt
          have HS2 := Lib.hid hs2
          have HRT2 := Lib.hid hrt
          clear hrt hs2 hA2 hT2
          go_wp2_with fail
          refine (HRT2.out).mono ?_
          rintro e w3 ⟨rfl, D3, hA3, hT3⟩
          have HI3 := Lib.hid (And.intro hA3 (HI2.out.2.trans hT3))
          have hrt := HRT.out w3 D3 (r + 1 + 1) (by omega) hA3 ((nL : Int) + 1)
          rw [HRA.out.2.1] at hrt
          have HRT3 := Lib.hid hrt
          clear hrt hA3 hT3
          go_wp2_with fail
          refine (HRT3.out).mono ?_
          rintro e w4 ⟨rfl, D4, hA4, hT4⟩
          have HI4 := Lib.hid (And.intro hA4 (HI3.out.2.trans hT4))
          have hlf := HLF.out w4 D4 _ hA4 (nL : Int)
          rw [HRA.out.2.2] at hlf
          have HLF4 := Lib.hid hlf
          clear hlf hA4 hT4
          go_wp2_with fail
          refine (HLF4.out).mono ?_
          rintro e w5 ⟨rfl, m, hw5⟩
          have HI5 := Lib.hid (show ListS w0 w5 a W B L i (r + 1 + 1 + 1) D4 now log F FS ∧ Turn a.own w w5 from by
            rw [hw5]
            exact ⟨HI4.out.1.keep (below_drewN (Below.refl _ _) m), HI4.out.2.trans (Turn.of_below (below_drewN (Below.refl _ _) m))⟩)
          clear hw5
          go_wp2_with fail
          refine (num_calls 0 w5).mono ?_
          rintro e w6 ⟨rfl, rfl⟩
          go_wp2_with fail
          refine (num_calls 0 w5).mono ?_
          rintro e w6 ⟨rfl, rfl⟩
          go_wp2_with fail
          have hm1 := HMR.out w5 D4 _ HI5.out.1 HI5.out.2 0 (by rw [← HNL.out]; exact (Nat.zero_le _))
          rw [← HS1.out] at hm1
          have HM1 := Lib.hid hm1
          clear hm1
          refine (HM1.out).mono ?_
          rintro e w6 ⟨rfl, hb6⟩
          have HI6 := Lib.hid (And.intro (HI5.out.1.keep hb6) (HI5.out.2.trans (Turn.of_below hb6)))
          have hm2 := HMR.out w6 D4 _ HI6.out.1 HI6.out.2 nL (by rw [← HNL.out]; exact Nat.le_refl _)
          rw [← HS2.out] at hm2
          have HM2 := Lib.hid hm2
          clear hm2 hb6
          go_wp2_with fail
          refine (HM2.out).mono ?_
          rintro e w7 ⟨rfl, hb7⟩
          have HI7 := Lib.hid (And.intro (HI6.out.1.keep hb7) (HI6.out.2.trans (Turn.of_below hb7)))
          clear hb7
          go_wp2_with fail
          refine (num_calls 80 w7).mono ?_
          rintro e w8 ⟨rfl, rfl⟩
          go_wp2_with fail
          refine (num_calls 81 w7).mono ?_
          rintro e w8 ⟨rfl, rfl⟩
          go_wp2
          go_ret
          exact ⟨rfl, D4, HI7.out.1, HI7.out.2⟩
        · have k1 : decide ((0 : Int) ≤ n) = false := decide_eq_false h0
          clear hc h0
          have hrt := HRT.out wr D r (by omega) HI.out.1 (0 : Int)
          rw [show rootA W L (0 : Int) = (rootF W L 0, 0) from HRA.out.1 0 (Nat.zero_le _)] at hrt
          obtain ⟨s1, hs1⟩ : ∃ x, x = rootF W L 0 := ⟨_, rfl⟩
          rw [← hs1] at hrt
          have HS1 := Lib.hid hs1
          have HRT1 := Lib.hid hrt
          clear hrt hs1
          go_wp2_with fail
          refine (HRT1.out).mono ?_
          rintro e w2 ⟨rfl, D2, hA2, hT2⟩
          have HI2 := Lib.hid (And.intro hA2 (HI.out.2.trans hT2))
          have hrt := HRT.out w2 D2 (r + 1) (by omega) hA2 (nL : Int)
          rw [HRA.out.1 nL (Nat.le_refl _)] at hrt
          obtain ⟨s2, hs2⟩ : ∃ x, x = rootF W L nL := ⟨_, rfl⟩
          rw [← hs2] at hrt
          have HS2 := Lib.hid hs2
          have HRT2 := Lib.hid hrt
          clear hrt hs2 hA2 hT2
          go_wp2_with fail
          refine (HRT2.out).mono ?_
          rintro e w3 ⟨rfl, D3, hA3, hT3⟩
          have HI3 := Lib.hid (And.intro hA3 (HI2.out.2.trans hT3))
          have hrt := HRT.out w3 D3 (r + 1 + 1) (by omega) hA3 ((nL : Int) + 1)
          rw [HRA.out.2.1] at hrt
          have HRT3 := Lib.hid hrt
          clear hrt hA3 hT3
          go_wp2_with fail
          refine (HRT3.out).mono ?_
          rintro e w4 ⟨rfl, D4, hA4, hT4⟩
          have HI4 := Lib.hid (And.intro hA4 (HI3.out.2.trans hT4))
          have hlf := HLF.out w4 D4 _ hA4 (nL : Int)
          rw [HRA.out.2.2] at hlf
          have HLF4 := Lib.hid hlf
          clear hlf hA4 hT4
          go_wp2_with fail
          refine (HLF4.out).mono ?_
          rintro e w5 ⟨rfl, m, hw5⟩
          have HI5 := Lib.hid (show ListS w0 w5 a W B L i (r + 1 + 1 + 1) D4 now log F FS ∧ Turn a.own w w5 from by
            rw [hw5]
            exact ⟨HI4.out.1.keep (below_drewN (Below.refl _ _) m), HI4.out.2.trans (Turn.of_below (below_drewN (Below.refl _ _) m))⟩)
          clear hw5
          go_wp2_with fail
          refine (num_calls 0 w5).mono ?_
          rintro e w6 ⟨rfl, rfl⟩
          go_wp2_with fail
          refine (num_calls 0 w5).mono ?_
          rintro e w6 ⟨rfl, rfl⟩
          go_wp2_with fail
          have hm1 := HMR.out w5 D4 _ HI5.out.1 HI5.out.2 0 (by rw [← HNL.out]; exact (Nat.zero_le _))
          rw [← HS1.out] at hm1
          have HM1 := Lib.hid hm1
          clear hm1
          refine (HM1.out).mono ?_
          rintro e w6 ⟨rfl, hb6⟩
          have HI6 := Lib.hid (And.intro (HI5.out.1.keep hb6) (HI5.out.2.trans (Turn.of_below hb6)))
          have hm2 := HMR.out w6 D4 _ HI6.out.1 HI6.out.2 nL (by rw [← HNL.out]; exact Nat.le_refl _)
          rw [← HS2.out] at hm2
          have HM2 := Lib.hid hm2
          clear hm2 hb6
          go_wp2_with fail
          refine (HM2.out).mono ?_
          rintro e w7 ⟨rfl, hb7⟩
          have HI7 := Lib.hid (And.intro (HI6.out.1.keep hb7) (HI6.out.2.trans (Turn.of_below hb7)))
          clear hb7
          go_wp2_with fail
          refine (num_calls 80 w7).mono ?_
          rintro e w8 ⟨rfl, rfl⟩
          go_wp2_with fail
          refine (num_calls 81 w7).mono ?_
          rintro e w8 ⟨rfl, rfl⟩
          go_wp2
          go_ret
          exact ⟨rfl, D4, HI7.out.1, HI7.out.2⟩
end
end Go.Proofs.YtblkehdpenfhjaaGreatDoor
/-
  An engine and the list of all its leaves beside it.
-/
set_option linter.unusedVariables false
set_option linter.unusedSimpArgs false
namespace Go.Proofs.YtblkehdpenfhjaaGreatDoor
open Go.RowKit Go.Maps Go.ChangeMaps Go.MapKept

section
variable {w w' wg : World} {a : EA} {W B i r : Nat} {L : List ByteArray} {D : ED} {now : Recs} {log : List Value} {F FS : Nat → Prop} {A : Option Addr} {c : Nat}
structure AllS (wg w : World) (a : EA) (W B : Nat) (L : List ByteArray) (i r : Nat) (D : ED) (now : Recs) (log : List Value) (F FS : Nat → Prop) (A : Option Addr) (c : Nat) : Prop where
  list : ListS wg w a W B L i r D now log F FS
  all : w.ownsRow wg.heap.size 9 1 (.slice A L.length c) L.length (L.map Value.string)
  mine : ∀ b, (Value.slice A L.length c).ownBlock = some b → F b ∧ ¬ FS b
theorem AllS.notOwn (h : AllS wg w a W B L i r D now log F FS A c) {b : Nat} (hb : (Value.slice A L.length c).ownBlock = some b) : ¬ a.own b := h.list.sys.apart b (h.mine b hb).1
theorem AllS.keep (h : AllS wg w a W B L i r D now log F FS A c) (hb : Below w.heap.size w w') : AllS wg w' a W B L i r D now log F FS A c :=
  ⟨h.list.keep hb, own_keep h.all fun b cur hc => hb.block b (block_lt hc), h.mine⟩
theorem AllS.turned {D' : ED} {r' : Nat} (h : AllS wg w a W B L i r D now log F FS A c) (hl : ListS wg w' a W B L i r' D' now log F FS) (ht : Turn a.own w w') : AllS wg w' a W B L i r' D' now log F FS A c :=
  ⟨hl, own_keepB h.all fun b hb hlt => ht.block b hlt (h.notOwn hb), h.mine⟩
/-- the list lies as it lay behind an Append, a Flush -/
theorem AllS.lies {L' : List ByteArray} {i' : Nat} {D' : ED} {now' : Recs} {log' : List Value} {F' FS' : Nat → Prop} (h : AllS wg w a W B L i r D now log F FS A c) (hl : ListS wg w' a W B L' i' r D' now' log' F' FS') (ht : Turn (fun b => a.own b ∨ FS b) w w') (hF : ∀ b, F b → F' b) (hFS : ∀ b, FS' b → FS b ∨ w.heap.size ≤ b) :
    w'.ownsRow wg.heap.size 9 1 (.slice A L.length c) L.length (L.map Value.string) ∧ ∀ b, (Value.slice A L.length c).ownBlock = some b → F' b ∧ ¬ FS' b :=
  ⟨own_keepB h.all fun b hb hlt => ht.block b hlt (fun ho => ho.elim (h.notOwn hb) (h.mine b hb).2), fun b hb => ⟨hF b (h.mine b hb).1, fun hf => (hFS b hf).elim (h.mine b hb).2 (fun hn => by
    obtain ⟨cur, hc⟩ := own_block h.all hb
    have := block_lt hc
    omega)⟩⟩
theorem AllS.rowAt (h : AllS wg w a W B L i r D now log F FS A c) : RowAt w A L 0 L.length := fun h0 => by
  rcases h.all.2 with ⟨hv, hz⟩ | ⟨g, cap, cur, hv, q2, q3, q4⟩
  · omega
  · injection hv with e1 e2 e3
    refine ⟨g, 0, e1, block_lt q3, fun j hj => ?_⟩
    have := World.ownsRow.cells (g := g) h.all (by rw [e1]; rfl) j (.string L[j]) (by simp [hj])
    rw [Addr.add_lit, Nat.zero_add] at this
    rw [Nat.zero_add, this, List.getD_eq_getElem?_getD, List.getElem?_eq_getElem hj]
    rfl
theorem AllS.cap (h : AllS wg w a W B L i r D now log F FS A c) : L.length ≤ c := by
  rcases h.all.2 with ⟨hv, hz⟩ | ⟨g, cap, cur, hv, q2, q3, q4, q5⟩
  · rw [hz]; exact Nat.zero_le _
  · injection hv with e1 e2 e3
    omega
theorem AllS.slin (h : AllS wg w a W B L i r D now log F FS A c) : SlIn w (.slice A L.length c) (L.map Value.string) (fun b => ¬ a.own b) := by
  refine ⟨A, c, by rw [List.length_map], by rw [List.length_map]; exact h.cap, fun h0 => ?_⟩
  rw [List.length_map] at h0
  rcases h.all.2 with ⟨hv, hz⟩ | ⟨g, cap, cur, hv, q2, q3, q4⟩
  · omega
  · injection hv with e1 e2 e3
    refine ⟨g, 0, e1, block_lt q3, h.notOwn (by rw [e1]; rfl), fun j hj => ?_⟩
    have := World.ownsRow.cells (g := g) h.all (by rw [e1]; rfl) j _ (List.getElem?_eq_getElem hj)
    rw [Addr.add_lit, Nat.zero_add] at this
    rw [Nat.zero_add, this]
theorem AllS.small (h : AllS wg w a W B L i r D now log F FS A c) : ∀ x ∈ L, x.size ≤ 4096 := by have := h.list.sys.eng.ok.small; rw [h.list.L] at this; exact this
theorem AllS.mthNode (h : AllS wg w a W B L i r D now log F FS A c) (hL : L.length ≤ 1800) (x y : Int) :
    Calls Tryz.prog 25 #[.int .i64 W, addrV x y, .slice A L.length c] w fun e w' => e = .returned (.tuple #[.string (nodeA W L x y).1, .int .i64 (nodeA W L x y).2]) ∧ Below w.heap.size w w' :=
  mthNode_calls W L h.small (by omega) x y c w A h.cap h.rowAt h.list.sys.glob
theorem AllS.node (h : AllS wg w a W B L i r D now log F FS A c) (hL : L.length ≤ 1800) (hi : i ≤ 100) (hr : r ≤ 1000) (x y : Int) :
    Calls Tryz.prog 16 #[.pointer (some ⟨a.eb, 0, none⟩), addrV x y] w fun e w' => e = .returned (.tuple #[.string (nodeA W L x y).1, .int .i64 (nodeA W L x y).2]) ∧ ∃ D', AllS wg w' a W B L i r D' now log F FS A c :=
  (h.list.node hL hi hr x y).mono fun e w' ⟨h1, D', h2, h3⟩ => ⟨h1, D', h.turned h2 h3⟩
theorem AllS.flush (h : AllS wg w a W B L i r D now log F FS A c) (hL : L.length ≤ 1800) (hi : i ≤ 100) (hr : r ≤ 1000) :
    Calls Tryz.prog 26 #[.pointer (some ⟨a.eb, 0, none⟩)] w fun e w' => e = .returned (.int .i64 0) ∧ ∃ D' now' log' F' FS', AllS wg w' a W B L (i + 1) r D' now' log' F' FS' A c :=
  (h.list.flush hL hi hr).mono fun e w' ⟨h1, D', now', log', F', FS', h2, h3, h4, h5⟩ => ⟨h1, D', now', log', F', FS', h2, (h.lies h2 h3 h4 h5).1, (h.lies h2 h3 h4 h5).2⟩
theorem AllS.tells (h : AllS wg w a W B L i r D now log F FS A c) (hL : L.length ≤ 1800) (hi : i ≤ 100) (hr : r ≤ 900) (n : Int) :
    Calls Tryz.prog 27 #[.pointer (some ⟨a.eb, 0, none⟩), .int .i64 W, .slice A L.length c, .int .i64 n] w fun e w' => e = .returned (.bool true) ∧ ∃ D', AllS wg w' a W B L i (r + 3) D' now log F FS A c :=
  (tells_calls h.list hL hi hr h.slin (fun b hb => hb) n).mono fun e w' ⟨h1, D', h2, h3⟩ => ⟨h1, D', h.turned h2 h3⟩
/-- the list has grown by what the engine was given -/
theorem AllS.grew {xs : List ByteArray} {i' g cap : Nat} {D' : ED} {now' : Recs} {log' : List Value} {F' FS' : Nat → Prop} (hl : ListS wg w a W B (L ++ xs) i' r D' now' log' F' FS') (hm : ∀ b, (Value.slice A L.length c).ownBlock = some b → F' b ∧ ¬ FS' b)
    (hgr : w.grownBy w' (Value.slice A L.length c).ownBlock) (hg : (Value.slice A L.length c).ownBlock = some g ∨ g = w.heap.size) (hlt : g < w'.heap.size)
    (hown : w'.ownsRow wg.heap.size 9 1 (.slice (some ⟨g, 0, none⟩) (L.length + xs.length) cap) (L.length + xs.length) (L.map Value.string ++ xs.map Value.string)) :
    AllS wg w' a W B (L ++ xs) i' r D' now' log' (fun b => F' b ∨ b = g) FS' (some ⟨g, 0, none⟩) cap := by
  obtain ⟨h1, h2⟩ := hl.grew hgr hm hg hlt
  refine ⟨h1, by rw [List.length_append, List.map_append]; exact hown, fun b hb => ?_⟩
  have e : g = b := by simpa [Value.ownBlock] using hb
  subst e
  exact ⟨.inr rfl, h2⟩
theorem AllS.start (h : ListS wg w a W B [] i r D now log F FS) : AllS wg w a W B [] i r D now log F FS none 0 :=
  ⟨h, World.ownsRow_nil _ _ _ _, fun b hb => by cases hb⟩
end
end Go.Proofs.YtblkehdpenfhjaaGreatDoor
