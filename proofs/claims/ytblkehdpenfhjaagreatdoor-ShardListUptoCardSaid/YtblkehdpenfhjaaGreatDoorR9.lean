import Derived.Test.YtblkehdpenfhjaaGreatDoorR8
import Derived.Test.YtblkehdpenfhjaaGreatDoorCards
import Derived.Test.YtblkehdpenfhjaaGreatDoorTie
import Derived.WalkKit
import Derived.ProofKit
import Derived.OpenShut
import Derived.ShutString
import Derived.Deep.Slices
import Derived.Deep.Fields
import Derived.ChangeSame
import Derived.Deep.DeepHandedRow
import Derived.Lib.LaidTab
import Derived.Shelf.SlIter.Nil
import Derived.Shelf.SortM.Plain
import Derived.Shelf.SortM.SortNone
import Derived.Test.YtblkehdpenfhjaaGreatDoorProg
set_option linter.unnecessarySimpa false
set_option linter.unusedVariables false
set_option linter.unusedSimpArgs false
/-
  The laws' own functions: grown, walked.
-/
set_option linter.unusedVariables false
set_option linter.unusedSimpArgs false
namespace Go.Proofs.YtblkehdpenfhjaaGreatDoor
open Go.RowKit Go.Maps Go.ChangeMaps Go.MapKept

section
variable {w w' : World} {X Y : Nat → Prop}
set_option maxHeartbeats 16000000 in
set_option maxRecDepth 100000 in
theorem grown_calls {W B : Nat} (hW1 : 1 ≤ W) (hW2 : W ≤ 32) (hB : B ≤ 10) (l : List (List ByteArray)) (hBt : Batches l) {v : Value} (hv : GridIn w v l (fun b => b < w.heap.size)) (hG : Glob w) :
    Calls Tryz.prog 12 #[optV W B, v] w fun r w' => ∃ (a : EA) (D : ED) (now : Recs) (log : List Value) (F : Nat → Prop), r = .returned (.tuple #[.pointer (some ⟨a.sb, 0, none⟩), .pointer (some ⟨a.eb, 0, none⟩), .bool true]) ∧ Grew w w' a W B l.flatten l.length D now log F := by
  obtain ⟨w0, hw0⟩ : ∃ w0, w0 = w.alloc (.cells #[.int .i64 3, .int .i64 W, .int .i64 0, .int .i64 0, .int .i64 0, .int .i64 B] 25) := ⟨_, rfl⟩
  have hb0 : Below w.heap.size w w0 := by rw [hw0]; exact (Below.refl _ _).alloc (Nat.le_refl _) _
  have hbx : w0.heap[w.heap.size]? = some (.cells #[.int .i64 3, .int .i64 W, .int .i64 0, .int .i64 0, .int .i64 0, .int .i64 B] 25 (0, 0)) := by rw [hw0]; exact (MapKept.heap_alloc w _).1
  have hlt : w.heap.size < w0.heap.size := block_lt hbx
  have HC := Lib.hid (fun w' (hb : Below w0.heap.size w0 w') (k : Nat) => hb.cell (p := ⟨w.heap.size, k, none⟩) hlt)
  have HC0 := Lib.hid (fun (k : Nat) (hk : k < 6) => cell_of_block (off := k) hbx hk)
  have HB0 := Lib.hid hb0
  have HNEW := Lib.hid (storeNew_calls 536870912 (by decide) w0)
  have HMK := Lib.hid (fun (w1 : World) (sb : Nat) (F : Nat → Prop) (h : StoreAt w1 sb 536870912 [] [] [] 0 F) (hl : ∀ b, F b → b < w1.heap.size) (hG : Glob w1) (hgf : ∀ b, GlobB b → ¬ F b) => make_calls (space := 3) hW1 hW2 hB (by decide) (by decide) h hl hG hgf)
  have HG := Lib.hid hG
  have HBT := Lib.hid hBt
  obtain ⟨vs, ⟨A, cap, rfl, hcap, hcl⟩, hvl, hrows⟩ := hv
  obtain ⟨n, hn⟩ : ∃ n, n = vs.length := ⟨_, rfl⟩
  have HCL := Lib.hid (show 0 < n → ∃ b o, A = some ⟨b, o, none⟩ ∧ b < w.heap.size ∧ ∀ i (h : i < vs.length), w.cell? ⟨b, o + i, none⟩ = some vs[i] from fun h => by
    obtain ⟨b, o, h1, h2, h3, h4⟩ := hcl (by rw [← hn]; exact h)
    exact ⟨b, o, h1, h2, h4⟩)
  have HN := Lib.hid (And.intro hn (hn.trans hvl))
  have HRW := Lib.hid hrows
  have hln : n ≤ 30 := by rw [hn, hvl]; exact hBt.few
  rw [← hn] at hcap ⊢
  clear hn hcl hvl hrows hBt hW1 hW2 hB hb0 hbx hlt hG
  unfold optV at *
  go_enter Tryz.func12, Tryz.ntmps12
  go_wp2_with fail
  rw [← hw0]
  clear hw0
  refine (HNEW.out).mono ?_
  rintro r w1 ⟨sb, mb, kb, rfl, g1, g2, g3, g4, g5, g6, hst, hb1⟩
  have HB1 := Lib.hid hb1
  have HST := Lib.hid (StoreAt.made (by decide) hst (fun e => g6 e.symm))
  have HFL := Lib.hid (show ∀ b, (b = sb ∨ b = mb ∨ b = kb) → b < w1.heap.size ∧ w0.heap.size ≤ b from fun b hb => by
    rcases hb with rfl | rfl | rfl
    · exact ⟨block_lt hst.blk, g1⟩
    · exact ⟨hst.now.lt, g2⟩
    · exact ⟨hst.disk.lt, g3⟩)
  have HB1' := Lib.hid (HB0.out.trans (hb1.mono HB0.out.size))
  have HG1 := Lib.hid (HG.out.keep HB1'.out)
  have d0 := (HC.out w1 HB1.out 0).trans (HC0.out 0 (by decide))
  have d1 := (HC.out w1 HB1.out 1).trans (HC0.out 1 (by decide))
  have d2 := (HC.out w1 HB1.out 2).trans (HC0.out 2 (by decide))
  have d3 := (HC.out w1 HB1.out 3).trans (HC0.out 3 (by decide))
  have d4 := (HC.out w1 HB1.out 4).trans (HC0.out 4 (by decide))
  have d5 := (HC.out w1 HB1.out 5).trans (HC0.out 5 (by decide))
  dsimp only [List.getElem_toArray, List.getElem_cons_zero, List.getElem_cons_succ] at d0 d1 d2 d3 d4 d5
  have HMC := Lib.hid (HMK.out w1 sb _ HST.out (fun b hb => (HFL.out b hb).1) HG1.out (fun b hg hF => HG.out.new (Nat.le_trans HB0.out.size (HFL.out b hF).2) hg))
  clear hst hb1 g1 g2 g3 g4 g5 g6
  go_wp2_with fail
  refine (HMC.out).mono ?_
  rintro r w2 ⟨a, rfl, hsb, hS, hb2, hown⟩
  obtain ⟨eb, heb⟩ : ∃ eb, eb = a.eb := ⟨_, rfl⟩
  have HEB := Lib.hid (And.intro heb hsb)
  have HGR := Lib.hid (show Grew w w2 a W B [] 0 (D0 W B 3 0) [] [] (fun b => b = sb ∨ b = mb ∨ b = kb) from
    ⟨hS, Fresh.made W B, Nat.zero_le _, Nat.zero_le _, Nat.zero_le _, ⟨[], fun p hp => (by cases hp), rfl, Nat.le_refl _⟩, fun b hb => by
      rcases hb with hb | hb
      · exact Nat.le_trans HB1'.out.size (hown b hb)
      · exact Nat.le_trans HB0.out.size (HFL.out b hb).2, HB1'.out.trans (hb2.mono HB1'.out.size)⟩)
  rw [← heb]
  clear hsb hS hb2 hown heb d0 d1 d2 d3 d4 d5
  go_wp2_with fail
  refine (num_calls 0 w2).mono ?_
  rintro r w3 ⟨rfl, rfl⟩
  go_wp2_with fail
  go_loopw [10] (fun iv wr => ∃ (i : Nat), iv = .int .i64 (i : Int) ∧ i ≤ n ∧ Hid (∃ D now log F, Grew w wr a W B (l.take i).flatten i D now log F)) (fun iv _ => n + 1 - (intOf iv).toNat)
  case atStart => exact ⟨0, rfl, by omega, Lib.hid ⟨_, _, _, _, by simpa using HGR.out⟩⟩
  case round =>
    obtain ⟨i, rfl, hin, HI⟩ := hrel
    by_cases h1 : i < n
    · obtain ⟨b, o, rfl, hb, hcells⟩ := HCL.out (by omega)
      obtain ⟨D, now, log, F, hGr⟩ := HI.out
      have hiv : i < vs.length := by rw [← HN.out.1]; exact h1
      have hig : i < l.length := by rw [← HN.out.2]; exact h1
      have hsl := ((HRW.out i hiv hig).keep hGr.below.size fun b hlt _ => hGr.below.block b hlt)
      have hro := HBT.out.rows _ (List.getElem_mem hig)
      have hck : wr.cell? ⟨b, o + i, none⟩ = some vs[i] := (hGr.below.cell (p := ⟨b, o + i, none⟩) hb).trans (hcells i hiv)
      have hft := flat_take l i hig
      obtain ⟨r, hr⟩ : ∃ r, r = l[i] := ⟨_, rfl⟩
      rw [← hr] at hsl hro hft
      obtain ⟨rv, hrv⟩ : ∃ rv, rv = vs[i] := ⟨_, rfl⟩
      rw [← hrv] at hsl hck
      obtain ⟨Ar, cr, rfl, hcr⟩ : ∃ A c, rv = .slice A r.length c ∧ True := by
        obtain ⟨A, c, h, _⟩ := hsl
        rw [List.length_map] at h
        exact ⟨A, c, h, trivial⟩
      have hLb : (l.take i).flatten.length ≤ 1800 := (HBT.out.take i).2
      have HAP := Lib.hid (append_calls hGr.sys r hro.2.2 (by omega) (by omega) (by rw [hGr.fresh.L]; omega) hsl (fun b hb => ⟨fun ho => by have := hGr.far b (.inl ho); omega, fun ho => by have := hGr.far b (.inr ho); omega⟩)
        (by have := hGr.used; omega) (by have := hGr.logs; omega) (by have := hGr.many; omega))
      have HGA := Lib.hid (fun (w' : World) (F' : Nat → Prop) (k m : Nat) (h1 : k ≤ r.length + 1) (h2 : 1 ≤ k) => hGr.append (F' := F') (w' := w') (k := k) (m := m) hro.2.2 hro.2.1 h1 h2)
      rw [← HEB.out.1] at HAP
      have HFT := Lib.hid hft
      clear hGr hsl hro hft hcells hb hrv hr hiv hig hLb hcr
      obtain ⟨m, hm⟩ : ∃ m, m = r.length := ⟨_, rfl⟩
      have HMR := Lib.hid hm
      rw [← hm] at HAP hck
      clear hm
      go_wp2_with fail
      refine (HAP.out).mono ?_
      rintro r2 w4 ⟨rfl, F', k, q, hk1, hk2, hS, hT, hF, hq, hq2⟩
      have HI4 := Lib.hid (show ∃ D now log F, Grew w w4 a W B (l.take (i + 1)).flatten (i + 1) D now log F from ⟨_, _, _, _, by rw [HFT.out]; exact HGA.out w4 F' k q (by rw [← HMR.out]; exact hk2) hk1 hS hT hF (by rw [← HMR.out]; exact hq) (by rw [← HMR.out]; exact hq2)⟩)
      clear hk1 hk2 hS hT hF hq hq2 hck
      go_wp2_with fail
      refine (num_calls 0 w4).mono ?_
      rintro r w5 ⟨rfl, rfl⟩
      go_wp2
      exact ⟨⟨i + 1, by congr 1, by omega, HI4⟩, by simp [intOf]; omega⟩
    · have HE := Lib.hid (show i = l.length ∧ l.take i = l from ⟨by rw [← HN.out.2]; omega, List.take_of_length_le (by rw [← HN.out.2]; omega)⟩)
      go_wp2
      go_ret3
      obtain ⟨D, now, log, F, hGr⟩ := HI.out
      rw [HE.out.2, HE.out.1] at hGr
      exact ⟨a, D, now, log, F, by rw [HEB.out.1, HEB.out.2]; rfl, hGr⟩
end
end Go.Proofs.YtblkehdpenfhjaaGreatDoor
/-
  ShardLazy walked.
-/
set_option linter.unusedVariables false
set_option linter.unusedSimpArgs false
namespace Go.Proofs.YtblkehdpenfhjaaGreatDoor
open Go.RowKit Go.Maps Go.ChangeMaps Go.MapKept

section
variable {w w' : World} {X Y : Nat → Prop}
/-- a slice of addresses -/
def AddrIn (w : World) (v : Value) (ads : List (Int × Int)) (X : Nat → Prop) : Prop :=
  ∃ A cap, v = .slice A ads.length cap ∧ ads.length ≤ cap ∧ (0 < ads.length → ∃ b o, A = some ⟨b, o, none⟩ ∧ b < w.heap.size ∧ X b ∧ ∀ i (h : i < ads.length), w.cell? ⟨b, o + i * 2, none⟩ = some (.int .i64 ads[i].1) ∧ w.cell? ⟨b, o + i * 2 + 1, none⟩ = some (.int .i64 ads[i].2))
/-- an engine that is asked, behind its Appends -/
structure Asks (w0 w : World) (a : EA) (W B : Nat) (L : List ByteArray) (roots : Nat) (D : ED) (now : Recs) (log : List Value) (F : Nat → Prop) : Prop where
  sys : Sys w a D 536870912 now [] log F
  W : D.W = W
  B : D.B = B
  L : D.L = L
  nodes : D.nodes ≤ cnt D + 62 * roots
  used : usedR now ≤ 15266430
  logs : log.length ≤ 5490
  many : now.length ≤ 1830
  far : ∀ b, a.own b ∨ F b → w0.heap.size ≤ b
  below : Below w0.heap.size w0 w
theorem Fresh.cnt {D : ED} {W B : Nat} {L : List ByteArray} (h : Fresh D W B L) : D.nodes = 0 ∧ D.nodes ≤ cnt D + 62 * 0 := ⟨h.nodes, by rw [h.nodes]; omega⟩
theorem Grew.asks {w0 : World} {a : EA} {W B i : Nat} {L : List ByteArray} {D : ED} {now : Recs} {log : List Value} {F : Nat → Prop} (h : Grew w0 w a W B L i D now log F) (hi : i ≤ 30) : Asks w0 w a W B L 0 D now log F :=
  ⟨h.sys, h.fresh.W, h.fresh.B, h.fresh.L, h.fresh.cnt.2, by have := h.used; omega, by have := h.logs; omega, by have := h.many; omega, h.far, h.below⟩
theorem Asks.asked {w0 : World} {a : EA} {W B roots k : Nat} {L : List ByteArray} {D D' : ED} {now : Recs} {log : List Value} {F : Nat → Prop} (h : Asks w0 w a W B L roots D now log F) (hq : Asked w w' a D D' (fun b => ¬ a.own b ∧ ¬ F b) k) {roots' : Nat} (hk : k + 62 * roots ≤ 62 * roots') : Asks w0 w' a W B L roots' D' now log F :=
  ⟨h.sys.asked hq, hq.like.W.trans h.W, hq.like.B.trans h.B, hq.like.L.trans h.L, by have := hq.cnt; have := h.nodes; omega, h.used, h.logs, h.many, h.far,
    (Turn.trans' (Turn.of_below h.below) hq.turn fun b hb => .inr (h.far b (.inl hb))).below (fun k hk => hk) (Nat.le_refl _)⟩
theorem Asks.keep {w0 : World} {a : EA} {W B roots : Nat} {L : List ByteArray} {D : ED} {now : Recs} {log : List Value} {F : Nat → Prop} (h : Asks w0 w a W B L roots D now log F) (hb : Below w.heap.size w w') : Asks w0 w' a W B L roots D now log F :=
  ⟨h.sys.below hb, h.W, h.B, h.L, h.nodes, h.used, h.logs, h.many, h.far, h.below.trans (hb.mono h.below.size)⟩
theorem Asks.bound {w0 : World} {a : EA} {W B roots : Nat} {L : List ByteArray} {D : ED} {now : Recs} {log : List Value} {F : Nat → Prop} (h : Asks w0 w a W B L roots D now log F) : D.nodes ≤ L.length + L.length / 2 ^ B + 62 * roots := by
  have h1 := h.nodes
  have h2 := cnt_le D
  unfold ED.most at h2
  rw [h.L, h.B] at h2
  omega
theorem Asks.room {w0 : World} {a : EA} {W B roots : Nat} {L : List ByteArray} {D : ED} {now : Recs} {log : List Value} {F : Nat → Prop} (h : Asks w0 w a W B L roots D now log F) (hL : L.length ≤ 1800) (hr : roots ≤ 140737488351232) : D.nodes + D.most + 62 ≤ 1152921504606846976 + cnt D := by
  have h1 := h.bound
  have h2 : L.length / 2 ^ B ≤ L.length := Nat.div_le_self _ _
  unfold ED.most
  rw [h.L, h.B]
  omega
theorem Asks.node {w0 : World} {a : EA} {W B roots : Nat} {L : List ByteArray} {D : ED} {now : Recs} {log : List Value} {F : Nat → Prop} (h : Asks w0 w a W B L roots D now log F) (hL : L.length ≤ 1800) (hr : roots ≤ 140737488351232) (x y : Int) :
    Calls Tryz.prog 16 #[.pointer (some ⟨a.eb, 0, none⟩), addrV x y] w fun r w' => r = .returned (.tuple #[.string (nodeA W L x y).1, .int .i64 (nodeA W L x y).2]) ∧ ∃ D', Asks w0 w' a W B L roots D' now log F ∧ Ready D' x y ∧ (Ready D x y → D'.nodes = D.nodes) ∧ Turn a.own w w' := by
  have := engNode_calls h.sys.eng h.sys.sto h.sys.glob h.sys.good h.sys.new (by have := h.room hL hr; omega) x y
  rw [h.W, h.L] at this
  exact this.mono fun r w' ⟨h1, D', h2, h3, h4⟩ => ⟨h1, D', h.asked h2 (by omega), h3, h4, h2.turn⟩
theorem Asks.root {w0 : World} {a : EA} {W B roots : Nat} {L : List ByteArray} {D : ED} {now : Recs} {log : List Value} {F : Nat → Prop} (h : Asks w0 w a W B L roots D now log F) (hL : L.length ≤ 1800) (hr : roots ≤ 140737488351232) :
    Calls Tryz.prog 18 #[.pointer (some ⟨a.eb, 0, none⟩), .int .i64 (L.length : Int)] w fun r w' => r = .returned (.tuple #[.string (rootF W L L.length), .int .i64 0]) ∧ ∃ D', Asks w0 w' a W B L (roots + 1) D' now log F ∧ Turn a.own w w' := by
  have := engRoot_yes h.sys.eng h.sys.sto h.sys.glob h.sys.good h.sys.new (h.room hL hr) L.length (by rw [h.L]; exact Nat.le_refl _)
  rw [h.W, h.L] at this
  exact this.mono fun r w' ⟨h1, D', k, hk, h2⟩ => ⟨h1, D', h.asked h2 (by omega), h2.turn⟩
theorem Asks.counts {w0 : World} {a : EA} {W B roots : Nat} {L : List ByteArray} {D : ED} {now : Recs} {log : List Value} {F : Nat → Prop} (h : Asks w0 w a W B L roots D now log F) :
    Calls Tryz.prog 14 #[.pointer (some ⟨a.eb, 0, none⟩)] w fun r w' => r = .returned (countsV D.nodes) ∧ Below w.heap.size w w' := engCounts_calls h.sys.eng
theorem Asks.size {w0 : World} {a : EA} {W B roots : Nat} {L : List ByteArray} {D : ED} {now : Recs} {log : List Value} {F : Nat → Prop} (h : Asks w0 w a W B L roots D now log F) :
    Calls Tryz.prog 15 #[.pointer (some ⟨a.eb, 0, none⟩)] w fun r w' => r = .returned (.int .i64 (L.length : Int)) ∧ w = w' := by
  have := engSize_calls h.sys.eng
  rw [h.L] at this
  exact this
set_option maxHeartbeats 16000000 in
set_option maxRecDepth 100000 in
theorem lazy_calls (x y : Int) (g : List (List ByteArray)) (hl : g.length ≤ 140737488351232) (hr : ∀ r ∈ g, r.length ≤ 140737488351232) {v1 v2 : Value} (hv : GridIn w v1 g (fun b => b < w.heap.size)) (ads : List (Int × Int)) (hal : ads.length ≤ 140737488351232) (ha : AddrIn w v2 ads (fun b => b < w.heap.size)) (hG : Glob w) :
    Calls Tryz.prog 3 #[.int .i64 x, .int .i64 y, v1, v2] w fun r w' => r = .returned (.bool true) ∧ Below w.heap.size w w' := by
  have HOP := Lib.hid (opts_calls x y w)
  have HBS := Lib.hid (fun w' (hb : Below w.heap.size w w') => batches_calls (w := w') g hl hr (hv.keep hb.size fun b hlt _ => hb.block b hlt))
  obtain ⟨A, cap, rfl, hcap, hcl⟩ := ha
  obtain ⟨n, hn⟩ : ∃ n, n = ads.length := ⟨_, rfl⟩
  have HCL := Lib.hid (show 0 < n → ∃ b o, A = some ⟨b, o, none⟩ ∧ b < w.heap.size ∧ ∀ i (h : i < ads.length), w.cell? ⟨b, o + i * 2, none⟩ = some (.int .i64 ads[i].1) ∧ w.cell? ⟨b, o + i * 2 + 1, none⟩ = some (.int .i64 ads[i].2) from fun h => by
    obtain ⟨b, o, h1, h2, h3, h4⟩ := hcl (by rw [← hn]; exact h)
    exact ⟨b, o, h1, h2, h4⟩)
  have HN := Lib.hid hn
  have HG := Lib.hid hG
  rw [← hn] at hcap hal ⊢
  clear hl hr hv hcl hn hG
  go_enter Tryz.func3, Tryz.ntmps3
  go_wp2_with fail
  refine (HOP.out).mono ?_
  rintro r w1 ⟨W, B, rfl, hW1, hW2, hB, hb1⟩
  have HWB := Lib.hid (And.intro hW1 (And.intro hW2 hB))
  have HB1 := Lib.hid hb1
  clear hW1 hW2 hB hb1
  unfold optV
  go_wp2_with fail
  obtain ⟨w2, hw2⟩ : ∃ w2, w2 = w1.alloc (.cells #[.int .i64 3, .int .i64 W, .int .i64 0, .int .i64 0, .int .i64 0, .int .i64 B] 25) := ⟨_, rfl⟩
  have hb2 : Below w1.heap.size w1 w2 := by rw [hw2]; exact (Below.refl _ _).alloc (Nat.le_refl _) _
  have hbx : w2.heap[w1.heap.size]? = some (.cells #[.int .i64 3, .int .i64 W, .int .i64 0, .int .i64 0, .int .i64 0, .int .i64 B] 25 (0, 0)) := by rw [hw2]; exact (MapKept.heap_alloc w1 _).1
  have hlt : w1.heap.size < w2.heap.size := block_lt hbx
  have HC := Lib.hid (fun w' (hb : Below w2.heap.size w2 w') (k : Nat) => hb.cell (p := ⟨w1.heap.size, k, none⟩) hlt)
  have HC0 := Lib.hid (fun (k : Nat) (hk : k < 6) => cell_of_block (off := k) hbx hk)
  have HB2 := Lib.hid (HB1.out.trans (hb2.mono HB1.out.size))
  try rw [← hw2]
  clear hw2 hb2 hbx hlt
  refine (HBS.out w2 HB2.out).mono ?_
  rintro r w3 ⟨l, u, rfl, hBt, hRows, hb3⟩
  obtain ⟨Au, cu, rfl⟩ : ∃ A c, u = .slice A l.length c := by
    obtain ⟨vs, h1, _⟩ := hRows
    obtain ⟨A, c, h, _⟩ := own_form h1
    exact ⟨A, c, h⟩
  have HL := Lib.hid (And.intro hBt (And.intro hRows hb3))
  clear hBt hRows hb3
  have d0 := (HC.out w3 HL.out.2.2 0).trans (HC0.out 0 (by decide))
  have d1 := (HC.out w3 HL.out.2.2 1).trans (HC0.out 1 (by decide))
  have d2 := (HC.out w3 HL.out.2.2 2).trans (HC0.out 2 (by decide))
  have d3 := (HC.out w3 HL.out.2.2 3).trans (HC0.out 3 (by decide))
  have d4 := (HC.out w3 HL.out.2.2 4).trans (HC0.out 4 (by decide))
  have d5 := (HC.out w3 HL.out.2.2 5).trans (HC0.out 5 (by decide))
  dsimp only [List.getElem_toArray, List.getElem_cons_zero, List.getElem_cons_succ] at d0 d1 d2 d3 d4 d5
  have HB3 := Lib.hid (HB2.out.trans (HL.out.2.2.mono HB2.out.size))
  have HGR := Lib.hid (grown_calls (w := w3) HWB.out.1 HWB.out.2.1 HWB.out.2.2 l HL.out.1 (HL.out.2.1.grid.mono fun b hb _ => hb) (HG.out.keep HB3.out))
  go_wp2_with fail
  refine (HGR.out).mono ?_
  rintro r w4 ⟨a, D, now, log, F, rfl, hGr⟩
  have HB4 := Lib.hid (HB3.out.trans (hGr.below.mono HB3.out.size))
  have HF0 := Lib.hid hGr.fresh.cnt.1
  have HAS4 := Lib.hid (hGr.asks HL.out.1.few)
  have hjo := joined_calls (w := w4) l HL.out.1 ((HL.out.2.1.grid.mono (Y := fun b => b < w3.heap.size) fun b hb _ => hb).keep hGr.below.size fun b hlt _ => hGr.below.block b hlt)
  have hLb : l.flatten.length ≤ 1800 := by have := (HL.out.1.take l.length).2; rw [List.take_length] at this; exact this
  obtain ⟨L, hLL⟩ : ∃ L, L = l.flatten := ⟨_, rfl⟩
  rw [← hLL] at hjo hLb HAS4
  have HJO := Lib.hid hjo
  obtain ⟨eb, heb⟩ : ∃ eb, eb = a.eb := ⟨_, rfl⟩
  have HEB := Lib.hid heb
  rw [← heb]
  clear hGr d0 d1 d2 d3 d4 d5 hjo hLL heb
  go_wp2_with fail
  refine (HJO.out).mono ?_
  rintro r w5 ⟨u, rfl, hou, hb5⟩
  obtain ⟨Aj, cj, rfl, hcj⟩ := own_form hou
  have HAS5 := Lib.hid (HAS4.out.keep hb5)
  have HB5 := Lib.hid (HB4.out.trans (hb5.mono HB4.out.size))
  clear hou hb5 hcj
  obtain ⟨nL, hnL⟩ : ∃ n, n = L.length := ⟨_, rfl⟩
  have HNL := Lib.hid hnL
  rw [← hnL] at hLb ⊢
  clear hnL
  have hcn := HAS5.out.counts
  rw [HF0.out, ← HEB.out] at hcn
  have HCN := Lib.hid hcn
  clear hcn
  unfold countsV at HCN
  go_wp2_with fail
  refine (HCN.out).mono ?_
  rintro r w6 ⟨rfl, hb6⟩
  have HAS6 := Lib.hid (HAS5.out.keep hb6)
  have HB6 := Lib.hid (HB5.out.trans (hb6.mono HB5.out.size))
  clear hb6
  have hsz := HAS6.out.size
  rw [← HEB.out, ← HNL.out] at hsz
  have HSZ := Lib.hid hsz
  clear hsz
  go_wp2_with fail
  refine (HSZ.out).mono ?_
  rintro r w7 ⟨rfl, rfl⟩
  go_wp2_with fail
  have HB63 := Lib.hid (show Below w.heap.size w w3 from HB3.out)
  clear HCN HSZ HJO HGR HBS HOP
  go_loopw [15, 16] (fun rv iv wr => ∃ (i roots : Nat) (D1 : ED), rv = .int .i64 (roots : Int) ∧ iv = .int .i64 (i : Int) ∧ roots ≤ i ∧ i ≤ n ∧ Hid (Asks w3 wr a W B L roots D1 now log F)) (fun _ iv _ => n + 1 - (intOf iv).toNat)
  case atStart => exact ⟨0, 0, D, rfl, rfl, by omega, by omega, HAS6⟩
  case round =>
    obtain ⟨i, roots, D1, rfl, rfl, hri, hin, HAS⟩ := hrel
    by_cases h1 : i < n
    · obtain ⟨b, o, rfl, hb, hcells⟩ := HCL.out (by omega)
      have hia : i < ads.length := by rw [← HN.out]; exact h1
      have HCW := Lib.hid (fun (w' : World) (hb' : Below w.heap.size w w') => And.intro ((hb'.cell (p := ⟨b, o + i * 2, none⟩) hb).trans (hcells i hia).1) ((hb'.cell (p := ⟨b, o + i * 2 + 1, none⟩) hb).trans (hcells i hia).2))
      obtain ⟨p, hp⟩ : ∃ p, p = ads[i].1 := ⟨_, rfl⟩
      obtain ⟨q, hq⟩ : ∃ q, q = ads[i].2 := ⟨_, rfl⟩
      rw [← hp, ← hq] at HCW
      obtain ⟨d0, d1⟩ := HCW.out wr (HB3.out.trans (HAS.out.below.mono HB3.out.size))
      have hnd := HAS.out.node (by rw [← HNL.out]; exact hLb) (by omega) p q
      obtain ⟨sd, hsd⟩ : ∃ sd, sd = (nodeA W L p q).1 := ⟨_, rfl⟩
      obtain ⟨se, hse⟩ : ∃ se, se = (nodeA W L p q).2 := ⟨_, rfl⟩
      have HSD := Lib.hid (And.intro hsd hse)
      rw [← hsd, ← hse, ← HEB.out] at hnd
      unfold addrV at hnd
      have HND := Lib.hid hnd
      clear hnd hsd hse hp hq hcells hb hia
      go_wp2_with fail
      refine (HND.out).mono ?_
      rintro r w8 ⟨rfl, D2, hA2, hR2, _, _⟩
      have HA8 := Lib.hid hA2
      have HR8 := Lib.hid hR2
      have hcn := hA2.counts
      rw [← HEB.out] at hcn
      have HCN := Lib.hid hcn
      obtain ⟨N, hN⟩ : ∃ N, N = D2.nodes := ⟨_, rfl⟩
      have HNN := Lib.hid hN
      rw [← hN] at HCN
      unfold countsV at HCN
      clear hA2 hR2 hcn hN d0 d1
      go_wp2_with fail
      refine (HCN.out).mono ?_
      rintro r w9 ⟨rfl, hb9⟩
      have HA9 := Lib.hid (HA8.out.keep hb9)
      clear hb9
      obtain ⟨w10, hw10⟩ : ∃ w10, w10 = w9.alloc (.cells #[.int .i64 (N : Int), .int .i64 0, .int .i64 0, .int .i64 0] 35) := ⟨_, rfl⟩
      have hb10 : Below w9.heap.size w9 w10 := by rw [hw10]; exact (Below.refl _ _).alloc (Nat.le_refl _) _
      have HBX := Lib.hid (show w10.heap[w9.heap.size]? = some (.cells #[.int .i64 (N : Int), .int .i64 0, .int .i64 0, .int .i64 0] 35 (0, 0)) by rw [hw10]; exact (MapKept.heap_alloc w9 _).1)
      have HA10 := Lib.hid (HA9.out.keep hb10)
      obtain ⟨d0, d1⟩ := HCW.out w10 (HB3.out.trans (HA10.out.below.mono HB3.out.size))
      have hnd := HA10.out.node (by rw [← HNL.out]; exact hLb) (by omega) p q
      rw [← HSD.out.1, ← HSD.out.2, ← HEB.out] at hnd
      unfold addrV at hnd
      have HND2 := Lib.hid hnd
      clear hnd hb10
      have hwA := Lib.hid hw10
      rw [hw10] at d0 d1
      clear hw10
      go_wp2_with fail
      rw [← hwA.out]
      refine (HND2.out).mono ?_
      rintro r w11 ⟨rfl, D3, hA3, _, hE3, hT3⟩
      clear d0 d1 hwA
      have hE : D3.nodes = N := by
        rw [HNN.out]
        exact hE3 HR8.out
      have hcn := hA3.counts
      rw [← HEB.out, hE] at hcn
      have HCN3 := Lib.hid (show ∀ w', Hid (Below w11.heap.size w11 w') → Calls Tryz.prog 14 #[.pointer (some ⟨eb, 0, none⟩)] w' fun r w'' => r = .returned (countsV N) ∧ Hid (Below w11.heap.size w11 w'') from fun w' s1 => by
        have := (hA3.keep s1.out).counts
        rw [← HEB.out, hE] at this
        exact this.mono fun r w'' ⟨h1, h2⟩ => ⟨h1, Lib.hid (s1.out.trans (h2.mono s1.out.size))⟩)
      unfold countsV at HCN3
      have HNUM := Lib.hid (show ∀ (z : Int) w', Hid (Below w11.heap.size w11 w') → Calls Tryz.prog 17 #[.int .i64 z] w' fun r w'' => r = .returned (.int .i64 z) ∧ Hid (Below w11.heap.size w11 w'') from fun z w' s1 => (num_calls z w').mono fun _ _ ⟨h1, h2⟩ => ⟨h1, h2 ▸ s1⟩)
      have HA11 := Lib.hid hA3
      have hblk : w11.heap[w9.heap.size]? = some (.cells #[.int .i64 (N : Int), .int .i64 0, .int .i64 0, .int .i64 0] 35 (0, 0)) := (hT3.block _ (block_lt HBX.out) (fun ho => by have := HA9.out.sys.eng.low ho; omega)).trans HBX.out
      have HBL := Lib.hid (fun (w' : World) (s1 : Hid (Below w11.heap.size w11 w')) (k : Nat) (hk : k < 4) => (s1.out.cell (p := ⟨w9.heap.size, k, none⟩) (block_lt hblk)).trans (cell_of_block (off := k) hblk hk))
      clear hA3 hE3 hcn hE hT3 hblk
      go_wp2_with fail
      refine wp_region_quietQ (fun w' => Hid (Below w11.heap.size w11 w')) (by kernel_rfl) (by kernel_rfl) (Lib.hid (below_drewN (Below.refl _ w11) 1)) ?_
      iterate 5
        refine valQ ?_ ?_ (by rfl) (fun w' s1 => ?_) ?_ ?_
        rotate_left 2
        focus (go_simp; exact rfl)
        focus (go_simp; exact rfl)
      refine callQ ?_ ?_ ?_ ?_ (by rfl) (fun w' s1 => ?_) (fun w' s1 => ?_) ?_ ?_
      rotate_left 4
      focus (go_simp; first | exact rfl | (refine ⟨?_, ?_⟩ <;> exact rfl))
      focus (exact HNUM.out _ w' s1)
      focus (go_simp; exact rfl)
      refine valQ ?_ ?_ (by rfl) (fun w' s1 => ?_) ?_ ?_
      rotate_left 2
      focus (go_simp; exact rfl)
      focus (go_simp; exact rfl)
      refine callQ ?_ ?_ ?_ ?_ (by rfl) (fun w' s1 => ?_) (fun w' s1 => ?_) ?_ ?_
      rotate_left 4
      focus (go_simp; first | exact rfl | (refine ⟨?_, ?_⟩ <;> exact rfl))
      focus (exact HNUM.out _ w' s1)
      focus (go_simp; exact rfl)
      iterate 4
        refine valQ ?_ ?_ (by rfl) (fun w' s1 => ?_) ?_ ?_
        rotate_left 2
        focus (go_simp; exact rfl)
        focus (go_simp; exact rfl)
      refine callQ ?_ ?_ ?_ ?_ (by rfl) (fun w' s1 => ?_) (fun w' s1 => ?_) ?_ ?_
      rotate_left 4
      focus (go_simp; first | exact rfl | (refine ⟨?_, ?_⟩ <;> exact rfl))
      focus (exact HCN3.out w' s1)
      focus (go_simp; exact rfl)
      refine valQ ?_ ?_ (by rfl) (fun w' s1 => ?_) ?_ ?_
      rotate_left 2
      focus (have d0 := HBL.out w' s1 0 (by decide); have d1 := HBL.out w' s1 1 (by decide); have d2 := HBL.out w' s1 2 (by decide); have d3 := HBL.out w' s1 3 (by decide); go_simp; exact rfl)
      focus (go_simp; exact rfl)
      refine valQ ?_ ?_ (by rfl) (fun w' s1 => ?_) ?_ ?_
      rotate_left 2
      focus (go_simp; exact rfl)
      focus (go_simp; exact rfl)
      refine valQ ?_ ?_ (by rfl) (fun w' s1 => ?_) ?_ ?_
      rotate_left 2
      focus (go_simp; exact rfl)
      focus (go_simp; exact rfl)
      refine nilQ (fun w12 s12 => ?_)
      have HA12 := Lib.hid (HA11.out.keep s12.out)
      clear s12
      obtain ⟨r3, hr3⟩ : ∃ r3, r3 = i % 3 := ⟨_, rfl⟩
      have hm3 : (i : Int).tmod 3 = (r3 : Int) := by rw [hr3]; rfl
      have hm3b : (i : Int) % 3 = (r3 : Int) := by omega
      have hr3b : r3 < 3 := by omega
      clear hr3
      by_cases hz : r3 = 0
      · subst hz
        have hrt := HA12.out.root (by rw [← HNL.out]; exact hLb) (by omega)
        rw [← HEB.out, ← HNL.out] at hrt
        have HRT := Lib.hid hrt
        clear hrt
        go_wp2_with fail
        refine (HRT.out).mono ?_
        rintro r w13 ⟨rfl, D4, hA4, _⟩
        have HA13 := Lib.hid hA4
        clear hA4
        go_wp2
        exact ⟨⟨i + 1, roots + 1, D4, by congr 1, by congr 1, by omega, by omega, HA13⟩, by simp [intOf]; omega⟩
      · have hz1 : ¬ ((r3 : Int) = 0) := by omega
        go_wp2
        exact ⟨⟨i + 1, roots, D3, rfl, by congr 1, by omega, by omega, HA12⟩, by simp [intOf]; omega⟩
    · have hcn := HAS.out.counts
      rw [← HEB.out] at hcn
      have HCN := Lib.hid hcn
      obtain ⟨N, hN⟩ : ∃ N, N = D1.nodes := ⟨_, rfl⟩
      have HNN := Lib.hid hN
      rw [← hN] at HCN
      obtain ⟨sh, hsh⟩ : ∃ sh, sh = nL / 2 ^ B := ⟨_, rfl⟩
      have hbd : N ≤ nL + sh + 62 * roots := by rw [hN, hsh, HNL.out]; exact HAS.out.bound
      have hshl : sh ≤ nL := by rw [hsh]; exact Nat.div_le_self _ _
      have hshr : (nL : Int) / 2 ^ B = (sh : Int) := by rw [hsh]; simp
      have hB10 : B ≤ 10 := HWB.out.2.2
      unfold countsV at HCN
      clear hcn hN hsh
      go_wp2_with fail
      refine (HCN.out).mono ?_
      rintro r w9 ⟨rfl, hb9⟩
      have HA9 := Lib.hid (HAS.out.keep hb9)
      clear hb9
      obtain ⟨w10, hw10⟩ : ∃ w10, w10 = w9.alloc (.cells #[.int .i64 (N : Int), .int .i64 0, .int .i64 0, .int .i64 0] 35) := ⟨_, rfl⟩
      have hb10 : Below w9.heap.size w9 w10 := by rw [hw10]; exact (Below.refl _ _).alloc (Nat.le_refl _) _
      have hbx : w10.heap[w9.heap.size]? = some (.cells #[.int .i64 (N : Int), .int .i64 0, .int .i64 0, .int .i64 0] 35 (0, 0)) := by rw [hw10]; exact (MapKept.heap_alloc w9 _).1
      have HBX := Lib.hid hbx
      have HA10 := Lib.hid (HA9.out.keep hb10)
      have d5 := (HC.out w10 (HL.out.2.2.trans (HA10.out.below.mono HL.out.2.2.size)) 5).trans (HC0.out 5 (by decide))
      dsimp only [List.getElem_toArray, List.getElem_cons_zero, List.getElem_cons_succ] at d5
      have e0 := cell_of_block (off := 0) hbx (by show 0 < 4; decide)
      have e1 := cell_of_block (off := 1) hbx (by show 1 < 4; decide)
      have e2 := cell_of_block (off := 2) hbx (by show 2 < 4; decide)
      have e3 := cell_of_block (off := 3) hbx (by show 3 < 4; decide)
      dsimp only [List.getElem_toArray, List.getElem_cons_zero, List.getElem_cons_succ] at e0 e1 e2 e3
      have hwA := Lib.hid hw10
      rw [hw10] at d5 e0 e1 e2 e3
      clear hw10 hb10 hbx
      go_wp2_with fail
      rw [← hwA.out]
      obtain ⟨lst, hlst⟩ : ∃ x : ByteArray, x = ⟨#[108, 97, 115, 116]⟩ := ⟨_, rfl⟩
      have hls : lst.size = 4 := by rw [hlst]; rfl
      obtain ⟨w11, hw11⟩ : ∃ w11, w11 = w10.alloc (.cells #[.string lst] 9) := ⟨_, rfl⟩
      have hb11 : Below w10.heap.size w10 w11 := by rw [hw11]; exact (Below.refl _ _).alloc (Nat.le_refl _) _
      have hbl : w11.heap[w10.heap.size]? = some (.cells #[.string lst] 9 (0, 0)) := by rw [hw11]; exact (MapKept.heap_alloc w10 _).1
      have hs10 : w9.heap.size + 1 = w10.heap.size := by rw [hwA.out]; simp
      have HA11 := Lib.hid (HA10.out.keep hb11)
      have hap := append_calls HA11.out.sys [lst] (by intro z hz; rw [List.mem_singleton] at hz; subst hz; omega) (by simp) (by simp) (by rw [HA11.out.L]; simp; rw [← HNL.out]; omega)
        (A := some ⟨w10.heap.size, 0, none⟩) (cap := 1) (Z := fun b => b = w10.heap.size) ⟨_, 1, rfl, Nat.le_refl _, fun _ => ⟨w10.heap.size, 0, rfl, block_lt hbl, rfl, fun j hj => by
          have : j = 0 := by simpa using hj
          subst this
          exact cell_of_block (off := 0) hbl (by show 0 < 1; decide)⟩⟩
        (fun b hb => by
          subst hb
          have hlow := HA10.out.sys.new w10.heap.size (Nat.le_refl _)
          exact hlow)
        (by have := HA11.out.used; simp; omega) (by have := HA11.out.logs; omega) (by have := HA11.out.many; omega)
      rw [← HEB.out, ← hs10] at hap
      have HAP := Lib.hid hap
      have hbm : w11.heap[w9.heap.size]? = some (.cells #[.int .i64 (N : Int), .int .i64 0, .int .i64 0, .int .i64 0] 35 (0, 0)) := (hb11.block _ (block_lt HBX.out)).trans HBX.out
      have HBM := Lib.hid hbm
      rw [← hlst, ← hw11]
      clear hap hb11 hbl hw11 hlst hls d5 e0 e1 e2 e3 hbd hshl hshr hbm
      refine (HAP.out).mono ?_
      rintro r w12 ⟨rfl, F', k, m, _, _, hS, hT, _, _⟩
      have hEn := hS.eng
      have hnd : ((D1.grown [lst]).marks (touchedL D1 m)).nodes = N := by rw [marks_eq, HNN.out]; rfl
      have HCN3 := Lib.hid (show ∀ w', Hid (Below w12.heap.size w12 w') → Calls Tryz.prog 14 #[.pointer (some ⟨eb, 0, none⟩)] w' fun r w'' => r = .returned (countsV N) ∧ Hid (Below w12.heap.size w12 w'') from fun w' s1 => by
        have := engCounts_calls (hEn.below s1.out)
        rw [← HEB.out, hnd] at this
        exact this.mono fun r w'' ⟨h1, h2⟩ => ⟨h1, Lib.hid (s1.out.trans (h2.mono s1.out.size))⟩)
      unfold countsV at HCN3
      have HNUM := Lib.hid (show ∀ (z : Int) w', Hid (Below w12.heap.size w12 w') → Calls Tryz.prog 17 #[.int .i64 z] w' fun r w'' => r = .returned (.int .i64 z) ∧ Hid (Below w12.heap.size w12 w'') from fun z w' s1 => (num_calls z w').mono fun _ _ ⟨h1, h2⟩ => ⟨h1, h2 ▸ s1⟩)
      have hblk : w12.heap[w9.heap.size]? = some (.cells #[.int .i64 (N : Int), .int .i64 0, .int .i64 0, .int .i64 0] 35 (0, 0)) := (hT.block _ (block_lt HBM.out) (fun ho => by
        have h9 := HA9.out.sys.new w9.heap.size (Nat.le_refl _)
        rcases ho with ho | ho
        · exact h9.1 ho
        · exact h9.2 ho)).trans HBM.out
      have HBL := Lib.hid (fun (w' : World) (s1 : Hid (Below w12.heap.size w12 w')) (k : Nat) (hk : k < 4) => (s1.out.cell (p := ⟨w9.heap.size, k, none⟩) (block_lt hblk)).trans (cell_of_block (off := k) hblk hk))
      have HFIN := Lib.hid (show Below w.heap.size w w12 from HB3.out.trans (((Turn.trans' (Turn.of_below HA11.out.below) hT fun b hb => .inr (HA11.out.far b hb)).below (fun k hk => hk) (Nat.le_refl _)).mono HB3.out.size))
      clear hS hT hEn hnd hblk
      go_wp2_with fail
      refine wp_region_quietQ (fun w' => Hid (Below w12.heap.size w12 w')) (by kernel_rfl) (by kernel_rfl) (Lib.hid (below_drewN (Below.refl _ w12) 1)) ?_
      refine valQ ?_ ?_ (by rfl) (fun w' s1 => ?_) ?_ ?_
      rotate_left 2
      focus (go_simp; exact rfl)
      focus (go_simp; exact rfl)
      refine callQ ?_ ?_ ?_ ?_ (by rfl) (fun w' s1 => ?_) (fun w' s1 => ?_) ?_ ?_
      rotate_left 4
      focus (go_simp; first | exact rfl | (refine ⟨?_, ?_⟩ <;> exact rfl))
      focus (exact HNUM.out _ w' s1)
      focus (go_simp; exact rfl)
      refine valQ ?_ ?_ (by rfl) (fun w' s1 => ?_) ?_ ?_
      rotate_left 2
      focus (go_simp; exact rfl)
      focus (go_simp; exact rfl)
      refine valQ ?_ ?_ (by rfl) (fun w' s1 => ?_) ?_ ?_
      rotate_left 2
      focus (go_simp; exact rfl)
      focus (go_simp; exact rfl)
      refine valQ ?_ ?_ (by rfl) (fun w' s1 => ?_) ?_ ?_
      rotate_left 2
      focus (go_simp; exact rfl)
      focus (go_simp; exact rfl)
      refine callQ ?_ ?_ ?_ ?_ (by rfl) (fun w' s1 => ?_) (fun w' s1 => ?_) ?_ ?_
      rotate_left 4
      focus (go_simp; first | exact rfl | (refine ⟨?_, ?_⟩ <;> exact rfl))
      focus (exact HCN3.out w' s1)
      focus (go_simp; exact rfl)
      refine valQ ?_ ?_ (by rfl) (fun w' s1 => ?_) ?_ ?_
      rotate_left 2
      focus (have d0 := HBL.out w' s1 0 (by decide); have d1 := HBL.out w' s1 1 (by decide); have d2 := HBL.out w' s1 2 (by decide); have d3 := HBL.out w' s1 3 (by decide); go_simp; exact rfl)
      focus (go_simp; exact rfl)
      refine valQ ?_ ?_ (by rfl) (fun w' s1 => ?_) ?_ ?_
      rotate_left 2
      focus (go_simp; exact rfl)
      focus (go_simp; exact rfl)
      refine valQ ?_ ?_ (by rfl) (fun w' s1 => ?_) ?_ ?_
      rotate_left 2
      focus (go_simp; exact rfl)
      focus (go_simp; exact rfl)
      refine valQ ?_ ?_ (by rfl) (fun w' s1 => ?_) ?_ ?_
      rotate_left 2
      focus (go_simp; exact rfl)
      focus (go_simp; exact rfl)
      refine nilQ (fun w13 s13 => ?_)
      have HF13 := Lib.hid (HFIN.out.trans (s13.out.mono HFIN.out.size))
      clear s13
      go_wp2
      go_ret
      exact ⟨rfl, HF13.out⟩
end
end Go.Proofs.YtblkehdpenfhjaaGreatDoor
/-
  Arguments opened: rows of strings; a list of addresses; the tables.
-/
set_option linter.unusedVariables false
set_option linter.unusedSimpArgs false
namespace Go.Proofs.YtblkehdpenfhjaaGreatDoor
open Go.RowKit Go.ChangeShapes Go.WideShapes Go.ChangeAt

theorem own_knob : ownKnob Tryz.prog.godebug = none := by kernel_rfl
theorem laid_out : laidOutB Tryz.prog = true := by kernel_rfl
theorem bulk_mem {H : Type} {d : DataW H} {ds : List (DataW H)} (h : d ∈ ds) : Rows.uptoBulk d ≤ Rows.uptoBulkAll ds := by
  induction ds with
  | nil => cases h
  | cons e ds ih =>
    simp only [Rows.uptoBulkAll]
    rcases List.mem_cons.1 h with rfl | h
    · omega
    · have := ih h; omega
theorem bulk_pos {H : Type} (d : DataW H) : 1 ≤ Rows.uptoBulk d := by
  cases d with
  | lit l => cases l <;> simp [Rows.uptoBulk]
  | _ => simp [Rows.uptoBulk]
theorem bulk_len {H : Type} (ds : List (DataW H)) : ds.length ≤ Rows.uptoBulkAll ds := by
  induction ds with
  | nil => simp
  | cons e ds ih =>
    have := bulk_pos e
    simp only [Rows.uptoBulkAll, List.length_cons]; omega
section
open Go.Deep
theorem open_slice_fields {H : Type} {enc : TypeId × Value → H} {P : Program} {w : World} {base : Nat} {spare : Nat → Bool} {held : Bool}
    {t e : TypeId} {fs : Array Field} {fuel : Nat} {cs : List Value} {x : DataW H × List MemPlace} (ht : P.underlying t = some (.slice e)) (he : P.underlying e = some (.struct fs))
    (hone : oneCellFields P fs = true) (hC : P.cellsOf e = fs.size) (h : DataW.trod enc P w base spare held fuel t cs = some x) :
    (cs = [.slice none 0 0] ∧ x = (.nil, [])) ∨
    ∃ (a : Addr) (len cap m : Nat) (D : Nat → DataW H) (Pl : Nat → List MemPlace), cs = [.slice (some a) len cap] ∧ base ≤ a.block ∧ len ≤ cap ∧ cap ≤ maxLen ∧ m = (if spare a.block then cap else len) ∧
      x = (.slice ((List.range len).map D) ((List.range (m - len)).map fun j => D (len + j)), MemPlace.row a (m * fs.size) ++ (List.range m).flatMap Pl) ∧
      ∀ i, i < m → ∃ (ys : List (DataW H × List MemPlace)) (n : Nat), D i = .agg (ys.map (·.1)) ∧ Pl i = ys.flatMap (·.2) ∧ ys.length = fs.size ∧
        ∀ (j : Nat) (f : Field), fs[j]? = some f → ∃ (v : Value) (y : DataW H × List MemPlace), w.cell? (a.add (i * fs.size + j)) = some v ∧ ys[j]? = some y ∧ DataW.trod enc P w base spare held n f.type [v] = some y := by
  rcases open_slice ht h with h0 | ⟨a, len, cap, m, n, D, Pl, hcs, hb, hl, hm, hmm, hx, hi⟩
  · exact .inl h0
  · refine .inr ⟨a, len, cap, m, D, Pl, hcs, hb, hl, hm, hmm, by rw [hC] at hx; exact hx, fun i him => ?_⟩
    obtain ⟨cs', hc, ht'⟩ := hi i him
    rw [hC] at hc
    obtain ⟨ys, n', hn', hy, hlen, hyl, hf⟩ := DataW.trod_struct he ht'
    obtain ⟨_, hcl, hat⟩ := World.cells?_some hc
    simp only [Prod.mk.injEq] at hy
    refine ⟨ys, n', hy.1, hy.2, hyl, fun j f hj => ?_⟩
    obtain ⟨ho, hk⟩ := hone_of hone j f hj
    have hjl : j < fs.size := (Array.getElem?_eq_some_iff.1 hj).1
    have hcell := hat j hjl
    have hv : cs'[j]? = some (cs'[j]'(by omega)) := List.getElem?_eq_getElem (by omega)
    have h1 := hf j f hj
    rw [ho, hk] at h1
    have hone' : (cs'.drop j).take 1 = [cs'[j]'(by omega)] := by
      rw [List.drop_eq_getElem_cons (by omega)]
      rfl
    rw [hone'] at h1
    have hys : ys[j]? = some (ys[j]'(by omega)) := List.getElem?_eq_getElem (by omega)
    refine ⟨_, _, ?_, hys, h1.trans hys⟩
    rw [← Go.Deep.add_add, hcell, hv]
end
section
variable {H : Type} {enc : TypeId × Value → H} {W : World} {held : Bool}
theorem strs_open {fuel : Nat} {cs : List Value} {x : DataW H × List MemPlace} (h : DataW.trod enc Tryz.prog W 0 (fun _ => true) held fuel 32 cs = some x) (hlt : ∀ p ∈ x.2, p.block < W.heap.size) :
    ∃ (v : Value) (xs : List ByteArray), cs = [v] ∧ SlIn W v (xs.map Value.string) (fun b => b < W.heap.size) ∧ xs.length ≤ Rows.uptoBulk x.1 := by
  rcases Go.Deep.open_slice1 Tryz.underlying32 (by kernel_rfl) h with ⟨hcs, hx⟩ | ⟨a, len, cap, m, n, V, D, Pl, hcs, _, hl, hm, hmm, hx, hi⟩
  · exact ⟨_, [], hcs, SlIn.nil _, by simp⟩
  · simp only [if_true] at hmm
    subst hmm
    have hop : ∀ i : Nat, ∃ s : ByteArray, i < m → V i = .string s := by
      intro i
      by_cases him : i < m
      · obtain ⟨s, h1, _⟩ := DataW.trod_string Tryz.underlying9 (hi i him).2
        exact ⟨s, fun _ => by simpa using h1⟩
      · exact ⟨⟨#[]⟩, fun h => absurd h him⟩
    obtain ⟨S, hS⟩ := Classical.axiomOfChoice hop
    have hlm : (((List.range len).map S).map Value.string).length = len := by simp
    refine ⟨_, (List.range len).map S, hcs, ⟨some a, m, by rw [hlm], by omega, fun hp => ?_⟩, ?_⟩
    · rw [hlm] at hp
      obtain ⟨b, off, spot⟩ := a
      have hc0 := (hi 0 (by omega)).1
      have hspot : spot = none := by simpa [Addr.add] using World.cell?_spot hc0
      subst hspot
      have hblt := hlt (.cell b off) (by rw [hx]; exact List.mem_append.2 (.inl (MemPlace.mem_row.2 ⟨0, by omega, by simp⟩)))
      refine ⟨b, off, rfl, hblt, hblt, fun i hi' => ?_⟩
      rw [hlm] at hi'
      have h1 := (hi i (by omega)).1
      rw [hS i (by omega)] at h1
      rw [show (⟨b, off + i, none⟩ : Addr) = Addr.add ⟨b, off, none⟩ i by simp [Addr.add]]
      simpa using h1
    · rw [hx]
      have h1 := bulk_len ((List.range len).map D)
      simp at h1
      simp only [Rows.uptoBulk, List.length_map, List.length_range]
      omega
theorem rows_open {v : Value} {fuel : Nat} {x : DataW H × List MemPlace} (h : DataW.trod enc Tryz.prog W 0 (fun _ => true) held fuel 22 v.cells.toList = some x) (hv : ∃ a l c, v = .slice a l c) (hlt : ∀ p ∈ x.2, p.block < W.heap.size) :
    ∃ g : List (List ByteArray), GridIn W v g (fun b => b < W.heap.size) ∧ g.length ≤ Rows.uptoBulk x.1 ∧ ∀ r ∈ g, r.length ≤ Rows.uptoBulk x.1 := by
  obtain ⟨a0, l0, c0, rfl⟩ := hv
  rcases Go.Deep.open_slice1 Tryz.underlying22 (by kernel_rfl) h with ⟨hcs, hx⟩ | ⟨a, len, cap, m, n, V, D, Pl, hcs, _, hl, hm, hmm, hx, hi⟩
  · simp [Value.cells] at hcs
    obtain ⟨rfl, rfl, rfl⟩ := hcs
    exact ⟨[], ⟨[], SlIn.nil _, rfl, fun k h1 => by simp at h1⟩, by simp, fun r hr => by cases hr⟩
  · simp [Value.cells] at hcs
    obtain ⟨rfl, rfl, rfl⟩ := hcs
    simp only [if_true] at hmm
    subst hmm
    have hop : ∀ i : Nat, ∃ r : List ByteArray, i < m → SlIn W (V i) (r.map Value.string) (fun b => b < W.heap.size) ∧ r.length ≤ Rows.uptoBulk (D i) := by
      intro i
      by_cases him : i < m
      · obtain ⟨v, r, h1, h2, h3⟩ := strs_open (hi i him).2 (fun p hp => hlt p (by rw [hx]; exact List.mem_append.2 (.inr (List.mem_flatMap.2 ⟨i, List.mem_range.2 him, hp⟩))))
        simp only [List.cons.injEq, and_true] at h1
        subst h1
        exact ⟨r, fun _ => ⟨h2, h3⟩⟩
      · exact ⟨[], fun h => absurd h him⟩
    obtain ⟨R, hR⟩ := Classical.axiomOfChoice hop
    have hlm : ((List.range l0).map V).length = l0 := by simp
    have hb : Rows.uptoBulkAll ((List.range l0).map D) ≤ Rows.uptoBulk x.1 := by rw [hx]; simp only [Rows.uptoBulk]; omega
    refine ⟨(List.range l0).map R, ⟨(List.range l0).map V, ⟨some a, m, by rw [hlm], by omega, fun hp => ?_⟩, by simp, fun k h1 h2 => ?_⟩, ?_, fun r hr => ?_⟩
    · rw [hlm] at hp
      obtain ⟨b, off, spot⟩ := a
      have hc0 := (hi 0 (by omega)).1
      have hspot : spot = none := by simpa [Addr.add] using World.cell?_spot hc0
      subst hspot
      have hblt := hlt (.cell b off) (by rw [hx]; exact List.mem_append.2 (.inl (MemPlace.mem_row.2 ⟨0, by omega, by simp⟩)))
      refine ⟨b, off, rfl, hblt, hblt, fun i hi' => ?_⟩
      rw [hlm] at hi'
      have h1 := (hi i (by omega)).1
      rw [show (⟨b, off + i, none⟩ : Addr) = Addr.add ⟨b, off, none⟩ i by simp [Addr.add]]
      simpa using h1
    · rw [hlm] at h1
      have := (hR k (by omega)).1
      simpa using this
    · have h1 := bulk_len ((List.range l0).map D)
      simp at h1
      simp only [List.length_map, List.length_range]
      omega
    · obtain ⟨i, hi', rfl⟩ := List.mem_map.1 hr
      rw [List.mem_range] at hi'
      have h4 := bulk_mem (d := D i) (ds := (List.range l0).map D) (List.mem_map.2 ⟨i, List.mem_range.2 hi', rfl⟩)
      have := (hR i (by omega)).2
      omega
theorem addrs_open {v : Value} {fuel : Nat} {x : DataW H × List MemPlace} (h : DataW.trod enc Tryz.prog W 0 (fun _ => true) held fuel 23 v.cells.toList = some x) (hv : ∃ a l c, v = .slice a l c) (hlt : ∀ p ∈ x.2, p.block < W.heap.size) :
    ∃ ads : List (Int × Int), AddrIn W v ads (fun b => b < W.heap.size) ∧ ads.length ≤ Rows.uptoBulk x.1 := by
  obtain ⟨a0, l0, c0, rfl⟩ := hv
  rcases open_slice_fields Tryz.underlying23 Tryz.underlying42 (by kernel_rfl) (by kernel_rfl) h with ⟨hcs, hx⟩ | ⟨a, len, cap, m, D, Pl, hcs, _, hl, hm, hmm, hx, hi⟩
  · simp [Value.cells] at hcs
    obtain ⟨rfl, rfl, rfl⟩ := hcs
    exact ⟨[], ⟨none, 0, rfl, Nat.le_refl _, fun h => absurd h (by simp)⟩, by simp⟩
  · simp [Value.cells] at hcs
    obtain ⟨rfl, rfl, rfl⟩ := hcs
    simp only [if_true] at hmm
    subst hmm
    have hop : ∀ i : Nat, ∃ p : Int × Int, i < m → W.cell? (a.add (i * 2 + 0)) = some (.int .i64 p.1) ∧ W.cell? (a.add (i * 2 + 1)) = some (.int .i64 p.2) := by
      intro i
      by_cases him : i < m
      · obtain ⟨ys, n, hD, _, hlen, hf⟩ := hi i him
        obtain ⟨v0, y0, c0, e0, t0⟩ := hf 0 _ rfl
        obtain ⟨v1, y1, c1, e1, t1⟩ := hf 1 _ rfl
        obtain ⟨n0, hc0, _, _⟩ := DataW.trod_int Tryz.underlying3 t0
        obtain ⟨n1, hc1, _, _⟩ := DataW.trod_int Tryz.underlying3 t1
        simp only [List.cons.injEq, and_true] at hc0 hc1
        subst hc0 hc1
        exact ⟨(n0, n1), fun _ => ⟨c0, c1⟩⟩
      · exact ⟨(0, 0), fun h => absurd h him⟩
    obtain ⟨X, hX⟩ := Classical.axiomOfChoice hop
    have hlm : ((List.range l0).map X).length = l0 := by simp
    refine ⟨(List.range l0).map X, ⟨some a, m, by rw [hlm], by omega, fun hp => ?_⟩, ?_⟩
    · rw [hlm] at hp
      obtain ⟨b, off, spot⟩ := a
      have hc0 := (hX 0 (by omega)).1
      have hspot : spot = none := by simpa [Addr.add] using World.cell?_spot hc0
      subst hspot
      have hblt := hlt (.cell b off) (by rw [hx]; exact List.mem_append.2 (.inl (MemPlace.mem_row.2 ⟨0, by show 0 < m * 2; omega, by simp⟩)))
      refine ⟨b, off, rfl, hblt, hblt, fun i hi' => ?_⟩
      rw [hlm] at hi'
      have h1 := hX i (by omega)
      rw [show (⟨b, off + i * 2, none⟩ : Addr) = Addr.add ⟨b, off, none⟩ (i * 2 + 0) by simp [Addr.add], show (⟨b, off + i * 2 + 1, none⟩ : Addr) = Addr.add ⟨b, off, none⟩ (i * 2 + 1) by simp [Addr.add, Nat.add_assoc]]
      simpa using h1
    · rw [hx, hlm]
      have h1 := bulk_len ((List.range l0).map D)
      simp at h1
      simp only [Rows.uptoBulk]
      omega
end
end Go.Proofs.YtblkehdpenfhjaaGreatDoor
/-
  ShardLazy: its card, of inputs within the bound, proved.
-/
set_option linter.unusedVariables false
set_option linter.unusedSimpArgs false
namespace Go.Proofs.YtblkehdpenfhjaaGreatDoor
open Go.RowKit Go.ChangeShapes Go.WideShapes Go.ChangeAt
open Go.ChangeMaps (open_string shut_string)

def zb : List Int := BEGL.map fun (n : Nat) => (n : Int)
def zt : List Int := KL.map fun (n : Nat) => (n : Int)
theorem tabs_of {P : Program} {W : World} {n1 n2 : String} {k : IntKind} {z1 z2 : List Int} {g1 g2 : Nat} {t1 t2 e : TypeId} {m1 m2 : Nat} (hg1 : P.globalNamed n1 = some g1) (hy1 : (P.globals[g1]?).map (·.type) = some t1) (hg2 : P.globalNamed n2 = some g2) (hy2 : (P.globals[g2]?).map (·.type) = some t2)
    (ht1 : P.underlying t1 = some (.array m1 e)) (ht2 : P.underlying t2 = some (.array m2 e)) (he : P.underlying e = some (.int k)) (hce : P.cellsOf e = 1) (hc1 : P.cellsOf t1 = m1) (hc2 : P.cellsOf t2 = m2)
    (h : laidMet P [(n1, Lib.tabData k z1), (n2, Lib.tabData k z2)] W) : Lib.TabIs P W n1 k z1 ∧ Lib.TabIs P W n2 k z2 := by
  obtain ⟨ps, ⟨g', t', cs, fuel, p, q, hg', ht', hvar, hd, h2, _⟩, _⟩ := h
  obtain ⟨g'', t'', cs', fuel', p', q', hg'', ht'', hvar', hd', _, _⟩ := h2
  obtain rfl := Option.some.inj (hg1.symm.trans hg')
  obtain rfl := Option.some.inj (hy1.symm.trans ht')
  obtain rfl := Option.some.inj (hg2.symm.trans hg'')
  obtain rfl := Option.some.inj (hy2.symm.trans ht'')
  unfold Lib.TabIs
  rw [hvar, hvar', ← Lib.cells_of_tab ht1 he hce hc1 hd, ← Lib.cells_of_tab ht2 he hce hc2 hd']
  exact ⟨rfl, rfl⟩
theorem block_of_var {P : Program} {W : World} {name : String} {g : Nat} {c : Array Value} (hg : P.globalNamed name = some g) (h : W.var? P name = some c) : ∃ t fr, W.heap[g]? = some (.cells c t fr) := by
  unfold World.var? at h
  rw [hg] at h
  simp only [Option.bind_some] at h
  split at h
  · rename_i cs t fr hh
    injection h with h
    subst h
    exact ⟨t, fr, hh⟩
  · cases h
def laid2 : List (String × DataW Unit) := [("annals/sha.begin", Rows.laid_annals_sha_begin), ("annals/sha.table", Rows.laid_annals_sha_table)]
theorem glob_of_laid {W : World} (h : laidMetH Tryz.prog laid2 W) : Glob W := by
  have h' : laidMet Tryz.prog [("annals/sha.begin", Lib.tabData .u32 zb), ("annals/sha.table", Lib.tabData .u32 zt)] W := h
  obtain ⟨h1, h2⟩ := tabs_of (g1 := 1) (g2 := 3) (by kernel_rfl) (by kernel_rfl) (by kernel_rfl) (by kernel_rfl) Tryz.underlying371 Tryz.underlying378 Tryz.underlying234 (by kernel_rfl) (by kernel_rfl) (by kernel_rfl) h'
  exact ⟨block_of_var (by kernel_rfl) h1, block_of_var (by kernel_rfl) h2⟩
namespace shardLazy
set_option maxRecDepth 100000 in
theorem contract (H : Type) (enc : TypeId × Value → H) (W : World) (base : Nat) (args : Array Value) (ds gs : List (DataW H)) (before : List MemPlace)
    (hval : ∀ (j : Nat) t v, Tryz.f3.params[j]? = some t → args[j]? = some v → Value.okWide Tryz.prog W .any base t v)
    (hW : DataW.Whole enc Tryz.prog Tryz.f3.params.toList Rows.shardLazySpec.vars false W args.toList ds gs before) (hk : Rows.uptoSmall H (ds ++ gs) = true) (hL : laidMetH Tryz.prog laid2 W) :
    Calls Tryz.prog 3 args W fun e W' => ∃ v, e = .returned v ∧ Rows.shardLazySpec.post enc Tryz.prog Tryz.f3 false true false false W args v W' := by
  have hW' := hW
  obtain ⟨p, q, hA0, hV, rfl, hfz, hnd⟩ := hW
  have hA : DataW.TrodAll enc Tryz.prog W 0 (fun _ => true) true Tryz.f3.params.toList args.toList ds p := hA0
  rw [Tryz.params3] at hA hval
  obtain ⟨v0, vs0, d0, ds0, p0, q0, hargs, rfl, rfl, h0, r0⟩ := trodAll_cons hA
  obtain ⟨v1, vs1, d1, ds1, p1, q1, rfl, rfl, rfl, h1, r1⟩ := trodAll_cons r0
  obtain ⟨v2, vs2, d2, ds2, p2, q2, rfl, rfl, rfl, h2, r2⟩ := trodAll_cons r1
  obtain ⟨v3, vs3, d3, ds3, p3, q3, rfl, rfl, rfl, h3, r3⟩ := trodAll_cons r2
  obtain ⟨rfl, rfl, rfl⟩ := trodAll_nil r3
  obtain rfl : args = #[v0, v1, v2, v3] := by cases args; simp_all
  obtain ⟨rfl, rfl⟩ := trodVars_none hV
  clear hA0 hargs
  obtain ⟨n0, rfl, rfl, rfl, w0⟩ := open_int Tryz.underlying3 (hval 0 3 v0 rfl rfl) h0
  obtain ⟨n1, rfl, rfl, rfl, w1⟩ := open_int Tryz.underlying3 (hval 1 3 v1 rfl rfl) h1
  have hsl2 := okWide_slice Tryz.underlying22 (hval 2 22 v2 rfl rfl)
  have hsl3 := okWide_slice Tryz.underlying23 (hval 3 23 v3 rfl rfl)
  simp only [List.append_nil, List.nil_append] at hW'
  have hb : Rows.uptoBulkAll ([DataW.lit (.int .i64 n0), DataW.lit (.int .i64 n1), d2, d3] ++ []) ≤ 1048576 := of_decide_eq_true hk
  simp only [List.append_nil, List.cons_append, Rows.uptoBulkAll, Rows.uptoBulk] at hb
  have h2k := h2
  have h3k := h3
  obtain ⟨fuel2, hf2⟩ := h2
  obtain ⟨fuel3, hf3⟩ := h3
  have hlt2 : ∀ x ∈ p2, x.block < W.heap.size := fun x hx => by simpa using hW'.lt x (by simp [hx])
  have hlt3 : ∀ x ∈ p3, x.block < W.heap.size := fun x hx => by simpa using hW'.lt x (by simp [hx])
  obtain ⟨g, hg1, hg2, hg3⟩ := rows_open (x := (d2, p2)) hf2 hsl2 hlt2
  obtain ⟨ads, ha1, ha2⟩ := addrs_open (x := (d3, p3)) hf3 hsl3 hlt3
  simp only at hg2 hg3 ha2
  refine (lazy_calls n0 n1 g (by omega) (fun r hr => by have := hg3 r hr; omega) hg1 ads (by omega) ha1 (glob_of_laid hL)).mono fun e W' ⟨he, bel⟩ => ?_
  subst he
  exact ⟨_, rfl, _, _, _, _, _, [], hW', trodAll_mk1 (shut_bool Tryz.underlying4 _), (trodAll_cons_mk (shut_int Tryz.underlying3 w0) (trodAll_cons_mk (shut_int Tryz.underlying3 w1) (trodAll_cons_mk (Below.trod laid_out (by kernel_rfl) (of_decide_eq_true (by kernel_rfl)) h2k bel hlt2) (trodAll_cons_mk (Below.trod laid_out (by kernel_rfl) (of_decide_eq_true (by kernel_rfl)) h3k bel hlt3) trodAll_mk0)))), rfl, bel.frame _, fun h => by cases h⟩
end shardLazy
end Go.Proofs.YtblkehdpenfhjaaGreatDoor
/-
  ShardLazy: the row and the card.
-/
set_option linter.unusedVariables false
set_option linter.unusedSimpArgs false
namespace Go.Proofs.YtblkehdpenfhjaaGreatDoor
open Go.RowKit Go.ChangeShapes Go.WideShapes Go.ChangeAt

def layB (c : Array Value) : Obj → Obj
  | .cells _ ty fr => .cells c ty fr
  | o => o
/-- a world for the witness: the settled one, the two tables as their text lays them -/
noncomputable def laidWorld (os : Os) : World :=
  let w := World.holding Tryz.prog os ⟨#[], #[], []⟩
  { w with heap := (w.heap.modify 1 (layB (BEGL.map uv).toArray)).modify 3 (layB (KL.map uv).toArray) }
namespace shardLazy
theorem laid_met (os : Os) : laidMet Tryz.prog laid2 ((laidWorld os).forCall (fun _ _ => 0) ⟨#[], #[.int .i64 0, .int .i64 0, .slice none 0 0, .slice none 0 0], []⟩).memory :=
  laidMet_of_run' 8 (by kernel_rfl) (by kernel_rfl)
theorem reads (os : Os) {H : Type} (enc : TypeId × Value → H) : ∃ places, DataW.whole enc Tryz.prog ((laidWorld os).forCall (fun _ _ => 0) ⟨#[], #[.int .i64 0, .int .i64 0, .slice none 0 0, .slice none 0 0], []⟩).memory Tryz.f3.params.toList Rows.shardLazySpec.vars false #[Value.int .i64 0, .int .i64 0, .slice none 0 0, .slice none 0 0].toList 8 = some ([.lit (.int .i64 0), .lit (.int .i64 0), .nil, .nil], [], places) :=
  ⟨[], by kernel_rfl⟩
set_option maxRecDepth 100000 in
theorem liftedUpto (os : Os) (started : os.Started) (H : Type) (enc : TypeId × Value → H) (F : Stop.Interp) :
    ReturnsInHanded {} Tryz.checked os 3 .any ((Rows.OpenSpec.upto Rows.shardLazySpec).preRow enc Tryz.prog Tryz.f3 Rows.shardLazyUptoRow.domain false Rows.shardLazyUptoRow.laid) (((Rows.OpenSpec.upto Rows.shardLazySpec).at F).post enc Tryz.prog Tryz.f3 false true false false) := by
  obtain ⟨places, hx⟩ := reads os enc
  refine returnsInHanded_of_row (C := Tryz.checked) (s := Rows.OpenSpec.upto Rows.shardLazySpec) own_knob started (by kernel_rfl) Tryz.func3
    (witness_row_at (enc := enc) (C := Tryz.checked) false (laidWorld os) #[.int .i64 0, .int .i64 0, .slice none 0 0, .slice none 0 0] rfl (by kernel_rfl) (by kernel_rfl) (by kernel_rfl)
      (OpenSpec.preRow_of_cond 8 hx (by kernel_rfl) (fun k hk => by cases hk; kernel_rfl) (by kernel_rfl) (laid_met os))) ?_
  intro W base args ds gs before hval hW c1 c2 c3 hL _ _
  exact contract H enc W base args ds gs before hval hW (by first | exact c2 _ rfl | exact c3 _ rfl) hL
theorem plain (f : FuncId) (fn : Func) (hf : Tryz.pinned.checked.prog.funcNamed "annals/annalslaw17.ShardLazy" = some f) (hfn : Tryz.pinned.checked.prog.funcs[f]? = some fn) :
    true = Tryz.pinned.checked.prog.looks [] ∧ ∀ (j : Nat) t, fn.params[j]? = some t → Tryz.pinned.checked.prog.wantsStandIn t = false := by
  obtain rfl : f = 3 := Option.some.inj ((show Tryz.prog.funcNamed "annals/annalslaw17.ShardLazy" = some 3 by kernel_rfl).symm.trans hf) |>.symm
  obtain rfl : fn = Tryz.f3 := (Option.some.inj (Tryz.func3.symm.trans hfn)).symm
  refine ⟨by kernel_rfl, fun j t ht => ?_⟩
  rw [Tryz.params3] at ht
  have hmem := Array.mem_of_getElem? ht
  have hall : (#[3, 3, 22, 23] : Array TypeId).all (fun t => !Tryz.prog.wantsStandIn t) = true := by kernel_rfl
  have := Array.all_eq_true_iff_forall_mem.1 hall t hmem
  show Tryz.prog.wantsStandIn t = false
  simpa using this
end shardLazy
end Go.Proofs.YtblkehdpenfhjaaGreatDoor
/-
  The shelf's contracts of sorted keys: the tables of numbers and their facts. No conditions.
-/
set_option linter.unusedVariables false
namespace Go.Proofs.YtblkehdpenfhjaaGreatDoor
open Go.RowKit Go.Shelf Go.Proofs

def keysA_ren : Ren where
  f := fun x => match x with
    | 7 => 142
    | 10 => 217
    | n => n
  t := fun x => match x with
    | 23 => 103
    | 26 => 9
    | 3 => 9
    | 28 => 182
    | 0 => 0
    | 27 => 181
    | 33 => 177
    | 4 => 4
    | n => n
  g := fun n => n
set_option maxRecDepth 100000 in
theorem keysA : SlLaysZ.n7 Tryz.prog keysA_ren where
  mixed := by kernel_rfl
  f7 := ⟨ "maps.Keys[annals/store.records,string,string]", by decide, Eq.trans Tryz.func142 (congrArg some (by kernel_rfl))⟩
  f10 := ⟨ "maps.Keys[annals/store.records,string,string]$1", by decide, Eq.trans Tryz.func217 (congrArg some (by kernel_rfl))⟩
  t0 := Tryz.underlying0
  a0 := Tryz.isAgg0
  z0 := Tryz.sizeOf0
  v0 := Tryz.zeroValue0
  t4 := Tryz.underlying4
  a4 := Tryz.isAgg4
  z4 := Tryz.sizeOf4
  v4 := Tryz.zeroValue4
  t23 := Tryz.underlying103
  a23 := Tryz.isAgg103
  z23 := Tryz.sizeOf103
  v23 := Tryz.zeroValue103
  t26 := Tryz.underlying9
  a26 := Tryz.isAgg9
  z26 := Tryz.sizeOf9
  v26 := Tryz.zeroValue9
  t27 := Tryz.underlying181
  a27 := Tryz.isAgg181
  z27 := Tryz.sizeOf181
  v27 := Tryz.zeroValue181
  t28 := Tryz.underlying182
  a28 := Tryz.isAgg182
  z28 := Tryz.sizeOf182
  v28 := Tryz.zeroValue182
  t33 := Tryz.underlying177
  a33 := Tryz.isAgg177
  z33 := Tryz.sizeOf177
  v33 := Tryz.zeroValue177
def sortedA_ren : Ren where
  f := fun x => match x with
    | 6 => 141
    | 8 => 215
    | 9 => 216
    | 11 => 275
    | 13 => 221
    | 12 => 276
    | 23 => 286
    | 24 => 287
    | 14 => 321
    | 15 => 322
    | 16 => 323
    | 17 => 324
    | 18 => 325
    | 19 => 326
    | 20 => 327
    | 21 => 328
    | 22 => 329
    | 25 => 359
    | 26 => 331
    | 27 => 332
    | 28 => 360
    | 29 => 361
    | 30 => 362
    | 31 => 373
    | n => n
  t := fun x => match x with
    | 26 => 9
    | 28 => 182
    | 24 => 32
    | 0 => 0
    | 3 => 3
    | 37 => 45
    | 48 => 234
    | 50 => 194
    | 4 => 4
    | 40 => 296
    | 39 => 295
    | 45 => 285
    | 5 => 5
    | 9 => 9
    | 51 => 350
    | 55 => 342
    | 57 => 366
    | 58 => 203
    | 33 => 177
    | n => n
  g := fun n => n
set_option maxRecDepth 100000 in
theorem sortedA : SlLaysZ.n6 Tryz.prog sortedA_ren where
  mixed := by kernel_rfl
  f6 := ⟨ "slices.Sorted[string]", by decide, Eq.trans Tryz.func141 (congrArg some (by kernel_rfl))⟩
  f8 := ⟨ "slices.Collect[string]", by decide, Eq.trans Tryz.func215 (congrArg some (by kernel_rfl))⟩
  f11 := ⟨ "slices.AppendSeq[[]string,string]", by decide, Eq.trans Tryz.func275 (congrArg some (by kernel_rfl))⟩
  t0 := Tryz.underlying0
  a0 := Tryz.isAgg0
  z0 := Tryz.sizeOf0
  v0 := Tryz.zeroValue0
  t24 := Tryz.underlying32
  a24 := Tryz.isAgg32
  z24 := Tryz.sizeOf32
  v24 := Tryz.zeroValue32
  t26 := Tryz.underlying9
  a26 := Tryz.isAgg9
  z26 := Tryz.sizeOf9
  v26 := Tryz.zeroValue9
  t28 := Tryz.underlying182
  a28 := Tryz.isAgg182
  z28 := Tryz.sizeOf182
  v28 := Tryz.zeroValue182
  i26 := by kernel_rfl
def sortA_ren : Ren where
  f := fun x => match x with
    | 6 => 216
    | 8 => 221
    | 9 => 276
    | 19 => 286
    | 20 => 287
    | 21 => 321
    | 22 => 322
    | 23 => 323
    | 24 => 324
    | 25 => 325
    | 26 => 326
    | 27 => 327
    | 28 => 328
    | 29 => 329
    | 36 => 359
    | 31 => 331
    | 32 => 332
    | 37 => 360
    | 38 => 361
    | 39 => 362
    | 41 => 373
    | n => n
  t := fun x => match x with
    | 27 => 32
    | 29 => 9
    | 3 => 3
    | 32 => 45
    | 26 => 32
    | 0 => 0
    | 44 => 234
    | 46 => 194
    | 4 => 4
    | 36 => 296
    | 35 => 295
    | 41 => 285
    | 5 => 5
    | 9 => 9
    | 53 => 350
    | 57 => 342
    | 63 => 366
    | 64 => 203
    | n => n
  g := fun n => n
set_option maxRecDepth 100000 in
theorem sortA : SlLaysM.n6 Tryz.prog sortA_ren where
  mixed := by kernel_rfl
  f6 := ⟨ "slices.Sort[[]string,string]", by decide, Eq.trans Tryz.func216 (congrArg some (by kernel_rfl))⟩
  f8 := Eq.trans Tryz.func221 (congrArg some (by kernel_rfl))
  f9 := ⟨ "slices.pdqsortOrdered[string]", by decide, Eq.trans Tryz.func276 (congrArg some (by kernel_rfl))⟩
  f19 := Eq.trans Tryz.func286 (congrArg some (by kernel_rfl))
  f20 := Eq.trans Tryz.func287 (congrArg some (by kernel_rfl))
  f21 := ⟨ "slices.insertionSortOrdered[string]", by decide, Eq.trans Tryz.func321 (congrArg some (by kernel_rfl))⟩
  f22 := ⟨ "slices.heapSortOrdered[string]", by decide, Eq.trans Tryz.func322 (congrArg some (by kernel_rfl))⟩
  f23 := ⟨ "slices.breakPatternsOrdered[string]", by decide, Eq.trans Tryz.func323 (congrArg some (by kernel_rfl))⟩
  f24 := ⟨ "slices.choosePivotOrdered[string]", by decide, Eq.trans Tryz.func324 (congrArg some (by kernel_rfl))⟩
  f25 := ⟨ "slices.reverseRangeOrdered[string]", by decide, Eq.trans Tryz.func325 (congrArg some (by kernel_rfl))⟩
  f26 := ⟨ "slices.partialInsertionSortOrdered[string]", by decide, Eq.trans Tryz.func326 (congrArg some (by kernel_rfl))⟩
  f27 := ⟨ "cmp.Less[string]", by decide, Eq.trans Tryz.func327 (congrArg some (by kernel_rfl))⟩
  f28 := ⟨ "slices.partitionEqualOrdered[string]", by decide, Eq.trans Tryz.func328 (congrArg some (by kernel_rfl))⟩
  f29 := ⟨ "slices.partitionOrdered[string]", by decide, Eq.trans Tryz.func329 (congrArg some (by kernel_rfl))⟩
  f31 := Eq.trans Tryz.func331 (congrArg some (by kernel_rfl))
  f32 := Eq.trans Tryz.func332 (congrArg some (by kernel_rfl))
  f36 := ⟨ "slices.siftDownOrdered[string]", by decide, Eq.trans Tryz.func359 (congrArg some (by kernel_rfl))⟩
  f37 := ⟨ "slices.medianAdjacentOrdered[string]", by decide, Eq.trans Tryz.func360 (congrArg some (by kernel_rfl))⟩
  f38 := ⟨ "slices.medianOrdered[string]", by decide, Eq.trans Tryz.func361 (congrArg some (by kernel_rfl))⟩
  f39 := ⟨ "cmp.isNaN[string]", by decide, Eq.trans Tryz.func362 (congrArg some (by kernel_rfl))⟩
  f41 := ⟨ "slices.order2Ordered[string]", by decide, Eq.trans Tryz.func373 (congrArg some (by kernel_rfl))⟩
  t0 := Tryz.underlying0
  a0 := Tryz.isAgg0
  z0 := Tryz.sizeOf0
  v0 := Tryz.zeroValue0
  t3 := Tryz.underlying3
  a3 := Tryz.isAgg3
  z3 := Tryz.sizeOf3
  v3 := Tryz.zeroValue3
  t4 := Tryz.underlying4
  a4 := Tryz.isAgg4
  z4 := Tryz.sizeOf4
  v4 := Tryz.zeroValue4
  t5 := Tryz.underlying5
  a5 := Tryz.isAgg5
  z5 := Tryz.sizeOf5
  v5 := Tryz.zeroValue5
  t9 := Tryz.underlying9
  a9 := Tryz.isAgg9
  z9 := Tryz.sizeOf9
  v9 := Tryz.zeroValue9
  t26 := Tryz.underlying32
  a26 := Tryz.isAgg32
  z26 := Tryz.sizeOf32
  v26 := Tryz.zeroValue32
  t27 := Tryz.underlying32
  a27 := Tryz.isAgg32
  z27 := Tryz.sizeOf32
  v27 := Tryz.zeroValue32
  t29 := Tryz.underlying9
  a29 := Tryz.isAgg9
  z29 := Tryz.sizeOf9
  v29 := Tryz.zeroValue9
  t32 := Tryz.underlying45
  a32 := Tryz.isAgg45
  z32 := Tryz.sizeOf45
  v32 := Tryz.zeroValue45
  t35 := Tryz.underlying295
  a35 := Tryz.isAgg295
  z35 := Tryz.sizeOf295
  v35 := Tryz.zeroValue295
  t36 := Tryz.underlying296
  a36 := Tryz.isAgg296
  z36 := Tryz.sizeOf296
  v36 := Tryz.zeroValue296
  t41 := Tryz.underlying285
  a41 := Tryz.isAgg285
  z41 := Tryz.sizeOf285
  v41 := Tryz.zeroValue285
  t44 := Tryz.underlying234
  a44 := Tryz.isAgg234
  z44 := Tryz.sizeOf234
  v44 := Tryz.zeroValue234
  t46 := Tryz.underlying194
  a46 := Tryz.isAgg194
  z46 := Tryz.sizeOf194
  v46 := Tryz.zeroValue194
  t53 := Tryz.underlying350
  a53 := Tryz.isAgg350
  z53 := Tryz.sizeOf350
  v53 := Tryz.zeroValue350
  t57 := Tryz.underlying342
  a57 := Tryz.isAgg342
  z57 := Tryz.sizeOf342
  v57 := Tryz.zeroValue342
  t63 := Tryz.underlying366
  a63 := Tryz.isAgg366
  z63 := Tryz.sizeOf366
  v63 := Tryz.zeroValue366
  t64 := Tryz.underlying203
  a64 := Tryz.isAgg203
  z64 := Tryz.sizeOf203
  v64 := Tryz.zeroValue203
end Go.Proofs.YtblkehdpenfhjaaGreatDoor
