import Derived.Test.YtblkehdpenfhjaaGreatDoorR1
import Derived.Lib.BufferWrite
set_option linter.unnecessarySimpa false
set_option linter.unusedVariables false
set_option linter.unusedSimpArgs false
/-
  Package sha: one block taken.
-/
set_option linter.unusedVariables false
set_option linter.unusedSimpArgs false
namespace Go.Proofs.YtblkehdpenfhjaaGreatDoor
open Go.RowKit

def KL : List Nat := [1116352408, 1899447441, 3049323471, 3921009573, 961987163, 1508970993, 2453635748, 2870763221, 3624381080, 310598401, 607225278, 1426881987, 1925078388, 2162078206, 2614888103, 3248222580, 3835390401, 4022224774, 264347078, 604807628, 770255983, 1249150122, 1555081692, 1996064986, 2554220882, 2821834349, 2952996808, 3210313671, 3336571891, 3584528711, 113926993, 338241895, 666307205, 773529912, 1294757372, 1396182291, 1695183700, 1986661051, 2177026350, 2456956037, 2730485921, 2820302411, 3259730800, 3345764771, 3516065817, 3600352804, 4094571909, 275423344, 430227734, 506948616, 659060556, 883997877, 958139571, 1322822218, 1537002063, 1747873779, 1955562222, 2024104815, 2227730452, 2361852424, 2428436474, 2756734187, 3204031479, 3329325298]
def BEGL : List Nat := [1779033703, 3144134277, 1013904242, 2773480762, 1359893119, 2600822924, 528734635, 1541459225]
/-- the package's variables stand as its text lays them -/
structure Glob (w : World) : Prop where
  begin' : ∃ t fr, w.heap[1]? = some (.cells (BEGL.map uv).toArray t fr)
  table : ∃ t fr, w.heap[3]? = some (.cells (KL.map uv).toArray t fr)
theorem Glob.keep {w w' : World} (h : Glob w) (hb : Below w.heap.size w w') : Glob w' := by
  obtain ⟨t, fr, h1⟩ := h.begin'
  obtain ⟨t2, fr2, h2⟩ := h.table
  exact ⟨⟨t, fr, (hb.block _ (block_lt h1)).trans h1⟩, ⟨t2, fr2, (hb.block _ (block_lt h2)).trans h2⟩⟩
theorem KL_lt : ∀ t (h : t < 64), (KL.getD t 0) < 4294967296 := by
  have : ∀ t : Fin 64, (KL.getD t.val 0) < 4294967296 := by decide +kernel
  exact fun t h => this ⟨t, h⟩
theorem Glob.at {w : World} (h : Glob w) (t : Nat) (ht : t < 64) : w.cell? ⟨3, t, none⟩ = some (.int .u32 ((KL.getD t 0 : Nat) : Int)) := by
  obtain ⟨ty, fr, h2⟩ := h.table
  have hl : t < KL.length := by have : KL.length = 64 := rfl; omega
  have h3 : (KL.map uv).toArray[t]? = some (uv (KL.getD t 0)) := by
    rw [List.getElem?_toArray, List.getElem?_map, List.getElem?_eq_getElem hl]
    simp only [Option.map_some, List.getD, List.getElem?_eq_getElem hl, Option.getD_some]
  unfold World.cell?
  simp only [h2]
  exact h3
structure St where
  a : Nat
  b : Nat
  c : Nat
  d : Nat
  e : Nat
  f : Nat
  g : Nat
  h : Nat
structure St.Ok (s : St) : Prop where
  a : s.a < 4294967296
  b : s.b < 4294967296
  c : s.c < 4294967296
  d : s.d < 4294967296
  e : s.e < 4294967296
  f : s.f < 4294967296
  g : s.g < 4294967296
  h : s.h < 4294967296
def St.cells (s : St) : Array Value := #[uv s.a, uv s.b, uv s.c, uv s.d, uv s.e, uv s.f, uv s.g, uv s.h]
def St.one (s : St) (k w : Nat) : Nat := (s.h + ((rotr s.e 6 ^^^ rotr s.e 11) ^^^ rotr s.e 25) + ((s.e &&& s.f) ^^^ ((4294967295 ^^^ s.e) &&& s.g)) + k + w) % 4294967296
def St.two (s : St) : Nat := (((rotr s.a 2 ^^^ rotr s.a 13) ^^^ rotr s.a 22) + (((s.a &&& s.b) ^^^ (s.a &&& s.c)) ^^^ (s.b &&& s.c))) % 4294967296
def St.step (s : St) (k w : Nat) : St := ⟨(s.one k w + s.two) % 4294967296, s.a, s.b, s.c, (s.d + s.one k w) % 4294967296, s.e, s.f, s.g⟩
theorem St.Ok.step {s : St} (h : s.Ok) (k w : Nat) : (s.step k w).Ok := ⟨Nat.mod_lt _ (by decide), h.a, h.b, h.c, Nat.mod_lt _ (by decide), h.e, h.f, h.g⟩
def rounds (W : List Nat) (s : St) : Nat → St
  | 0 => s
  | t + 1 => (rounds W s t).step (KL.getD t 0) (W.getD t 0)
theorem rounds_ok (W : List Nat) {s : St} (h : s.Ok) : ∀ t, (rounds W s t).Ok
  | 0 => h
  | t + 1 => (rounds_ok W h t).step _ _
def St.add (s v : St) : St := ⟨(s.a + v.a) % 4294967296, (s.b + v.b) % 4294967296, (s.c + v.c) % 4294967296, (s.d + v.d) % 4294967296, (s.e + v.e) % 4294967296, (s.f + v.f) % 4294967296, (s.g + v.g) % 4294967296, (s.h + v.h) % 4294967296⟩
theorem St.Ok.add (s v : St) : (s.add v).Ok := by constructor <;> exact Nat.mod_lt _ (by decide)
/-- the state behind a block -/
def St.take (s : St) (b : List UInt8) : St := s.add (rounds (wl b 48) s 64)
def St.at (s : St) (i : Nat) : Nat := [s.a, s.b, s.c, s.d, s.e, s.f, s.g, s.h].getD i 0
theorem St.cells_at (s : St) (k : Nat) (h : k < 8) : s.cells.getD k undef = .int .u32 ((s.at k : Nat) : Int) := by
  match k, h with
  | 0, _ => rfl
  | 1, _ => rfl
  | 2, _ => rfl
  | 3, _ => rfl
  | 4, _ => rfl
  | 5, _ => rfl
  | 6, _ => rfl
  | 7, _ => rfl
/-- eight cells from a place on are a state -/
def StAt (w : World) (b o : Nat) (s : St) : Prop := ∀ i, i < 8 → w.cell? ⟨b, o + i, none⟩ = some (s.cells.getD i undef) ∧ w.frozen? ⟨b, o + i, none⟩ = false
/-- the block's kind and length stay -/
def Shape (w w' : World) (b : Nat) : Prop := ∀ c t, w.heap[b]? = some (.cells c t (0, 0)) → ∃ c', w'.heap[b]? = some (.cells c' t (0, 0)) ∧ c'.size = c.size
theorem Shape.trans {w w' w'' : World} {b : Nat} (h : Shape w w' b) (k : Shape w' w'' b) : Shape w w'' b := fun c t hc => by
  obtain ⟨c', h1, h2⟩ := h c t hc
  obtain ⟨c2, h3, h4⟩ := k c' t h1
  exact ⟨c2, h3, h4.trans h2⟩
theorem Shape.of_block {w w' : World} {b : Nat} (h : w'.heap[b]? = w.heap[b]?) : Shape w w' b := fun c t hc => ⟨c, h.trans hc, rfl⟩
theorem Shape.set (w : World) (b off : Nat) (v : Value) : Shape w (w.setCell ⟨b, off, none⟩ v) b := fun c t hc => ⟨_, block_setCell hc v, by simp⟩
theorem and_lt32 {a b : Nat} (ha : a < 4294967296) : a &&& b < 4294967296 := Nat.lt_of_le_of_lt Nat.and_le_left ha
def set8 (w : World) (vb : Nat) (n0 n1 n2 n3 n4 n5 n6 n7 : Nat) : World := ((((((((w.setCell ⟨vb, 0, none⟩ (.int .u32 (n0 : Int))).setCell ⟨vb, 1, none⟩ (.int .u32 (n1 : Int))).setCell ⟨vb, 2, none⟩ (.int .u32 (n2 : Int))).setCell ⟨vb, 3, none⟩ (.int .u32 (n3 : Int))).setCell ⟨vb, 4, none⟩ (.int .u32 (n4 : Int))).setCell ⟨vb, 5, none⟩ (.int .u32 (n5 : Int))).setCell ⟨vb, 6, none⟩ (.int .u32 (n6 : Int))).setCell ⟨vb, 7, none⟩ (.int .u32 (n7 : Int))).drew.drew
theorem set8_heap {w : World} {vb : Nat} {s : St} {t : TypeId} (h : w.heap[vb]? = some (.cells s.cells t (0, 0))) (n0 n1 n2 n3 n4 n5 n6 n7 : Nat) : (set8 w vb n0 n1 n2 n3 n4 n5 n6 n7).heap[vb]? = some (.cells (St.mk n0 n1 n2 n3 n4 n5 n6 n7).cells t (0, 0)) := by
  have q0 := block_setCell (off := 0) h (.int .u32 (n0 : Int))
  have q1 := block_setCell (off := 1) q0 (.int .u32 (n1 : Int))
  have q2 := block_setCell (off := 2) q1 (.int .u32 (n2 : Int))
  have q3 := block_setCell (off := 3) q2 (.int .u32 (n3 : Int))
  have q4 := block_setCell (off := 4) q3 (.int .u32 (n4 : Int))
  have q5 := block_setCell (off := 5) q4 (.int .u32 (n5 : Int))
  have q6 := block_setCell (off := 6) q5 (.int .u32 (n6 : Int))
  have q7 := block_setCell (off := 7) q6 (.int .u32 (n7 : Int))
  unfold set8
  have e : (((((((s.cells.setIfInBounds 0 (.int .u32 (n0 : Int))).setIfInBounds 1 (.int .u32 (n1 : Int))).setIfInBounds 2 (.int .u32 (n2 : Int))).setIfInBounds 3 (.int .u32 (n3 : Int))).setIfInBounds 4 (.int .u32 (n4 : Int))).setIfInBounds 5 (.int .u32 (n5 : Int))).setIfInBounds 6 (.int .u32 (n6 : Int))).setIfInBounds 7 (.int .u32 (n7 : Int)) = (St.mk n0 n1 n2 n3 n4 n5 n6 n7).cells := by
    apply Array.ext'
    simp [St.cells, uv]
  rw [e] at q7
  rw [show ∀ w : World, w.drew.drew.heap = w.heap from fun _ => rfl, q7]
theorem set8_below {w2 w : World} {vb : Nat} (h : Below vb w2 w) (n0 n1 n2 n3 n4 n5 n6 n7 : Nat) : Below vb w2 (set8 w vb n0 n1 n2 n3 n4 n5 n6 n7) := by
  unfold set8
  have b0 := h.setCell (p := ⟨vb, 0, none⟩) (Nat.le_refl _) (.int .u32 (n0 : Int))
  have b1 := b0.setCell (p := ⟨vb, 1, none⟩) (Nat.le_refl _) (.int .u32 (n1 : Int))
  have b2 := b1.setCell (p := ⟨vb, 2, none⟩) (Nat.le_refl _) (.int .u32 (n2 : Int))
  have b3 := b2.setCell (p := ⟨vb, 3, none⟩) (Nat.le_refl _) (.int .u32 (n3 : Int))
  have b4 := b3.setCell (p := ⟨vb, 4, none⟩) (Nat.le_refl _) (.int .u32 (n4 : Int))
  have b5 := b4.setCell (p := ⟨vb, 5, none⟩) (Nat.le_refl _) (.int .u32 (n5 : Int))
  have b6 := b5.setCell (p := ⟨vb, 6, none⟩) (Nat.le_refl _) (.int .u32 (n6 : Int))
  have b7 := b6.setCell (p := ⟨vb, 7, none⟩) (Nat.le_refl _) (.int .u32 (n7 : Int))
  exact b7.drew.drew
set_option maxHeartbeats 8000000 in
set_option maxRecDepth 100000 in
theorem take_calls (s : St) (hok : s.Ok) (blk : ByteArray) (hb : blk.size = 64) (sb so : Nat) (w : World) (hG : Glob w) (hS : StAt w sb so s) (hlt : sb < w.heap.size) :
    Calls Tryz.prog 367 #[.pointer (some ⟨sb, so, none⟩), .string blk] w fun r w' => r = .returned (.tuple #[]) ∧ StAt w' sb so (s.take blk.data.toList) ∧
      (∀ p : Addr, p.block < w.heap.size → ¬ (p.block = sb ∧ so ≤ p.off ∧ p.off < so + 8) → w'.cell? p = w.cell? p) ∧ Turn (fun b => b = sb) w w' ∧ Shape w w' sb := by
  have HOK := Lib.hid hok
  have HG := Lib.hid hG
  have HS := Lib.hid hS
  have HLT := Lib.hid hlt
  clear hok hG hS hlt
  go_enter Tryz.func367, Tryz.ntmps367
  go_wp2_with fail
  refine (words_calls blk hb w).mono ?_
  rintro r w1 ⟨rfl, hb1⟩
  have HB1 := Lib.hid hb1
  have hz := zero64
  have hblk := (MapKept.heap_alloc w1 (.cells (arr64 []) 378)).1
  have HBK0 := Lib.hid hblk
  obtain ⟨W, hW⟩ : ∃ W, W = wl blk.data.toList 48 := ⟨_, rfl⟩
  have hWl : W.length = 64 := by rw [hW, wl_len]
  have HWlt := Lib.hid (show ∀ i (h : i < W.length), W[i] < 4294967296 from by rw [hW]; exact fun i h => wl_lt _ _ i h)
  rw [← hW]
  have HWE := Lib.hid hW
  clear hW
  have hsz : (Tryz.prog.info? 378).map (·.size) = some (arr64 W).size := by rw [arr64_size _ (by omega)]; kernel_rfl
  have hsz2 : (arr64 []).size = (arr64 W).size := by rw [arr64_size W (by omega), arr64_size [] (by decide)]
  have hfin := setRow_heap (w1.alloc (.cells (arr64 []) 378)) w1.heap.size (arr64 []) (arr64 W) 378 _ hblk
  have hbb := below_setRow (hb1.alloc hb1.size (.cells (arr64 []) 378)) hb1.size (arr64 W)
  have H2 := Lib.hid hsz
  have H3 := Lib.hid hsz2
  have HWL := Lib.hid hWl
  clear hsz hsz2 hblk hb1
  obtain ⟨w2, hw2⟩ : ∃ w2, w2 = (w1.alloc (.cells (arr64 []) 378)).setRow w1.heap.size (arr64 W) := ⟨_, rfl⟩
  rw [← hw2] at hfin hbb
  have HWK := Lib.hid hfin
  have HBB := Lib.hid hbb
  have HS2 := Lib.hid (show StAt w2 sb so s from fun i hi => ⟨(hbb.cell (p := ⟨sb, so + i, none⟩) HLT.out).trans (HS.out i hi).1, (World.frozen?_of_block (w := w) (hbb.block sb HLT.out)).trans (HS.out i hi).2⟩)
  have HG2 := Lib.hid (HG.out.keep hbb)
  obtain ⟨wb, hwb⟩ : ∃ wb, wb = w1.heap.size := ⟨_, rfl⟩
  have HWB := Lib.hid (show w.heap.size ≤ wb ∧ wb < w2.heap.size from ⟨by rw [hwb]; exact HB1.out.size, by rw [hwb]; exact block_lt hfin⟩)
  rw [← hwb] at HWK
  have HWBE := Lib.hid hwb
  clear hfin hbb hwb
  go_upto_region 1 with (refine wpList_store_row rfl 378 _ _ rfl _ _ rfl rfl 378 _ HBK0.out H2.out H3.out (arr64_one _) ?_)
  rw [← hw2, ← HWBE.out]
  clear hw2 hz hWl
  obtain ⟨p0, p1, p2, p3, p4, p5, p6, p7⟩ : w2.cell? ⟨sb, so, none⟩ = some (.int .u32 (s.a : Int)) ∧ w2.cell? ⟨sb, so + 1, none⟩ = some (.int .u32 (s.b : Int)) ∧ w2.cell? ⟨sb, so + 2, none⟩ = some (.int .u32 (s.c : Int)) ∧ w2.cell? ⟨sb, so + 3, none⟩ = some (.int .u32 (s.d : Int)) ∧ w2.cell? ⟨sb, so + 4, none⟩ = some (.int .u32 (s.e : Int)) ∧ w2.cell? ⟨sb, so + 5, none⟩ = some (.int .u32 (s.f : Int)) ∧ w2.cell? ⟨sb, so + 6, none⟩ = some (.int .u32 (s.g : Int)) ∧ w2.cell? ⟨sb, so + 7, none⟩ = some (.int .u32 (s.h : Int)) :=
    ⟨(HS2.out 0 (by decide)).1, (HS2.out 1 (by decide)).1, (HS2.out 2 (by decide)).1, (HS2.out 3 (by decide)).1, (HS2.out 4 (by decide)).1, (HS2.out 5 (by decide)).1, (HS2.out 6 (by decide)).1, (HS2.out 7 (by decide)).1⟩
  go_wp2
  clear p0 p1 p2 p3 p4 p5 p6 p7
  obtain ⟨w3, hw3⟩ : ∃ w3, w3 = w2.alloc (.cells #[.int .u32 (s.a : Int), .int .u32 (s.b : Int), .int .u32 (s.c : Int), .int .u32 (s.d : Int), .int .u32 (s.e : Int), .int .u32 (s.f : Int), .int .u32 (s.g : Int), .int .u32 (s.h : Int)] 371) := ⟨_, rfl⟩
  have HV0 := Lib.hid (show w3.heap[w2.heap.size]? = some (.cells (rounds W s 0).cells 371 (0, 0)) by rw [hw3]; exact (MapKept.heap_alloc w2 _).1)
  have HB3 := Lib.hid (show Below w2.heap.size w2 w3 by rw [hw3]; exact (Below.refl _ _).alloc (Nat.le_refl _) _)
  obtain ⟨vb, hvb⟩ : ∃ vb, vb = w2.heap.size := ⟨_, rfl⟩
  have HVB := Lib.hid hvb
  rw [← hw3, ← hvb]
  rw [← hvb] at HV0 HB3
  clear hw3 hvb
  go_loopw [17] (fun v wr => ∃ t : Nat, v = .int .i64 t ∧ t ≤ 64 ∧ Hid (wr.heap[vb]? = some (.cells (rounds W s t).cells 371 (0, 0))) ∧ Hid (Below vb w2 wr)) (fun v _ => 64 - (intOf v).toNat)
  case atStart => exact ⟨0, rfl, by omega, HV0, HB3⟩
  case round =>
    clear HV0 HB3
    obtain ⟨t, rfl, ht, HV, HB⟩ := hrel
    by_cases hlt : t < 64
    · obtain ⟨S, hS⟩ : ∃ S, S = rounds W s t := ⟨_, rfl⟩
      have hokS : S.Ok := by rw [hS]; exact rounds_ok W HOK.out t
      have HNX := Lib.hid (show rounds W s (t + 1) = S.step (KL.getD t 0) (W.getD t 0) by rw [hS]; rfl)
      rw [← hS] at HV
      clear hS
      have hkt := KL_lt t hlt
      have hwt : W.getD t 0 < 4294967296 := by
        have : t < W.length := by have := HWL.out; omega
        simp only [List.getD, List.getElem?_eq_getElem this, Option.getD_some]
        exact HWlt.out t this
      have cw : wr.cell? ⟨wb, t, none⟩ = some (.int .u32 ((W.getD t 0 : Nat) : Int)) := by
        have hl : t < W.length := by have := HWL.out; omega
        rw [HB.out.cell (p := ⟨wb, t, none⟩) (by rw [HVB.out]; exact HWB.out.2), cell_of_block (off := t) HWK.out (by rw [arr64_size _ (by have := HWL.out; omega)]; exact hlt), arr64_at W t hl (by rw [arr64_size _ (by have := HWL.out; omega)]; exact hlt)]
        simp only [List.getD, List.getElem?_eq_getElem hl, Option.getD_some]
        rfl
      have ck : wr.cell? ⟨3, t, none⟩ = some (.int .u32 ((KL.getD t 0 : Nat) : Int)) := (HG2.out.keep (by rw [HVB.out] at HB; exact HB.out)).at t hlt
      obtain ⟨kt, hkte⟩ : ∃ kt, kt = KL.getD t 0 := ⟨_, rfl⟩
      obtain ⟨wt, hwte⟩ : ∃ wt, wt = W.getD t 0 := ⟨_, rfl⟩
      rw [← hkte] at HNX hkt ck
      rw [← hwte] at HNX hwt cw
      clear hkte hwte
      obtain ⟨a, b, c, d, e, f, g, y⟩ := S
      obtain ⟨ha, hb', hc, hd, he, hf, hg, hy⟩ := hokS
      simp only at ha hb' hc hd he hf hg hy
      obtain ⟨c0, c1, c2, c3, c4, c5, c6, c7⟩ : wr.cell? ⟨vb, 0, none⟩ = some (.int .u32 (a : Int)) ∧ wr.cell? ⟨vb, 1, none⟩ = some (.int .u32 (b : Int)) ∧ wr.cell? ⟨vb, 2, none⟩ = some (.int .u32 (c : Int)) ∧ wr.cell? ⟨vb, 3, none⟩ = some (.int .u32 (d : Int)) ∧ wr.cell? ⟨vb, 4, none⟩ = some (.int .u32 (e : Int)) ∧ wr.cell? ⟨vb, 5, none⟩ = some (.int .u32 (f : Int)) ∧ wr.cell? ⟨vb, 6, none⟩ = some (.int .u32 (g : Int)) ∧ wr.cell? ⟨vb, 7, none⟩ = some (.int .u32 (y : Int)) :=
        ⟨cell_of_block HV.out (by show 0 < 8; decide), cell_of_block HV.out (by show 1 < 8; decide), cell_of_block HV.out (by show 2 < 8; decide), cell_of_block HV.out (by show 3 < 8; decide), cell_of_block HV.out (by show 4 < 8; decide), cell_of_block HV.out (by show 5 < 8; decide), cell_of_block HV.out (by show 6 < 8; decide), cell_of_block HV.out (by show 7 < 8; decide)⟩
      have T6 := Lib.hid fun w => turned6_calls e he w
      have T11 := Lib.hid fun w => turned11_calls e he w
      have T25 := Lib.hid fun w => turned25_calls e he w
      have T2 := Lib.hid fun w => turned2_calls a ha w
      have T13 := Lib.hid fun w => turned13_calls a ha w
      have T22 := Lib.hid fun w => turned22_calls a ha w
      have hr6 := rotr_lt 6 he
      obtain ⟨r6, hr6e⟩ : ∃ x, x = rotr e 6 := ⟨_, rfl⟩
      have T6' := Lib.hid (show ∀ w, Calls Tryz.prog 377 #[.int .u32 e, .int .i64 6] w fun r w' => r = .returned (.int .u32 (r6 : Int)) ∧ w = w' by rw [hr6e]; exact T6.out)
      clear T6
      have T6 := T6'
      clear T6'
      rw [← hr6e] at hr6
      have hr11 := rotr_lt 11 he
      obtain ⟨r11, hr11e⟩ : ∃ x, x = rotr e 11 := ⟨_, rfl⟩
      have T11' := Lib.hid (show ∀ w, Calls Tryz.prog 377 #[.int .u32 e, .int .i64 11] w fun r w' => r = .returned (.int .u32 (r11 : Int)) ∧ w = w' by rw [hr11e]; exact T11.out)
      clear T11
      have T11 := T11'
      clear T11'
      rw [← hr11e] at hr11
      have hr25 := rotr_lt 25 he
      obtain ⟨r25, hr25e⟩ : ∃ x, x = rotr e 25 := ⟨_, rfl⟩
      have T25' := Lib.hid (show ∀ w, Calls Tryz.prog 377 #[.int .u32 e, .int .i64 25] w fun r w' => r = .returned (.int .u32 (r25 : Int)) ∧ w = w' by rw [hr25e]; exact T25.out)
      clear T25
      have T25 := T25'
      clear T25'
      rw [← hr25e] at hr25
      have hr2 := rotr_lt 2 ha
      obtain ⟨r2, hr2e⟩ : ∃ x, x = rotr a 2 := ⟨_, rfl⟩
      have T2' := Lib.hid (show ∀ w, Calls Tryz.prog 377 #[.int .u32 a, .int .i64 2] w fun r w' => r = .returned (.int .u32 (r2 : Int)) ∧ w = w' by rw [hr2e]; exact T2.out)
      clear T2
      have T2 := T2'
      clear T2'
      rw [← hr2e] at hr2
      have hr13 := rotr_lt 13 ha
      obtain ⟨r13, hr13e⟩ : ∃ x, x = rotr a 13 := ⟨_, rfl⟩
      have T13' := Lib.hid (show ∀ w, Calls Tryz.prog 377 #[.int .u32 a, .int .i64 13] w fun r w' => r = .returned (.int .u32 (r13 : Int)) ∧ w = w' by rw [hr13e]; exact T13.out)
      clear T13
      have T13 := T13'
      clear T13'
      rw [← hr13e] at hr13
      have hr22 := rotr_lt 22 ha
      obtain ⟨r22, hr22e⟩ : ∃ x, x = rotr a 22 := ⟨_, rfl⟩
      have T22' := Lib.hid (show ∀ w, Calls Tryz.prog 377 #[.int .u32 a, .int .i64 22] w fun r w' => r = .returned (.int .u32 (r22 : Int)) ∧ w = w' by rw [hr22e]; exact T22.out)
      clear T22
      have T22 := T22'
      clear T22'
      rw [← hr22e] at hr22
      have qe1 := u32_xor_nat r6 r11 hr6 hr11
      have le1 : r6 ^^^ r11 < 4294967296 := xor_lt32 hr6 hr11
      obtain ⟨e1, he1e⟩ : ∃ x, x = r6 ^^^ r11 := ⟨_, rfl⟩
      rw [← he1e] at qe1 le1
      have qe2 := u32_xor_nat e1 r25 le1 hr25
      have le2 : e1 ^^^ r25 < 4294967296 := xor_lt32 le1 hr25
      obtain ⟨e2, he2e⟩ : ∃ x, x = e1 ^^^ r25 := ⟨_, rfl⟩
      rw [← he2e] at qe2 le2
      have qef := u32_and_nat e f he hf
      have lef : e &&& f < 4294967296 := and_lt32 he
      obtain ⟨ef, hefe⟩ : ∃ x, x = e &&& f := ⟨_, rfl⟩
      rw [← hefe] at qef lef
      have qne : bits .xor .u32 IntKind.u32.max (e : Int) = ((4294967295 ^^^ e : Nat) : Int) := u32_xor_nat 4294967295 e (by decide) he
      have lne : 4294967295 ^^^ e < 4294967296 := xor_lt32 (by decide) he
      obtain ⟨ne, hnee⟩ : ∃ x, x = 4294967295 ^^^ e := ⟨_, rfl⟩
      rw [← hnee] at qne lne
      have qng := u32_and_nat ne g lne hg
      have lng : ne &&& g < 4294967296 := and_lt32 lne
      obtain ⟨ng, hnge⟩ : ∃ x, x = ne &&& g := ⟨_, rfl⟩
      rw [← hnge] at qng lng
      have qch := u32_xor_nat ef ng lef lng
      have lch : ef ^^^ ng < 4294967296 := xor_lt32 lef lng
      obtain ⟨ch, hche⟩ : ∃ x, x = ef ^^^ ng := ⟨_, rfl⟩
      rw [← hche] at qch lch
      have qa1 := u32_xor_nat r2 r13 hr2 hr13
      have la1 : r2 ^^^ r13 < 4294967296 := xor_lt32 hr2 hr13
      obtain ⟨a1, ha1e⟩ : ∃ x, x = r2 ^^^ r13 := ⟨_, rfl⟩
      rw [← ha1e] at qa1 la1
      have qa2 := u32_xor_nat a1 r22 la1 hr22
      have la2 : a1 ^^^ r22 < 4294967296 := xor_lt32 la1 hr22
      obtain ⟨a2, ha2e⟩ : ∃ x, x = a1 ^^^ r22 := ⟨_, rfl⟩
      rw [← ha2e] at qa2 la2
      have qab := u32_and_nat a b ha hb'
      have lab : a &&& b < 4294967296 := and_lt32 ha
      obtain ⟨ab, habe⟩ : ∃ x, x = a &&& b := ⟨_, rfl⟩
      rw [← habe] at qab lab
      have qac := u32_and_nat a c ha hc
      have lac : a &&& c < 4294967296 := and_lt32 ha
      obtain ⟨ac, hace⟩ : ∃ x, x = a &&& c := ⟨_, rfl⟩
      rw [← hace] at qac lac
      have qm1 := u32_xor_nat ab ac lab lac
      have lm1 : ab ^^^ ac < 4294967296 := xor_lt32 lab lac
      obtain ⟨m1, hm1e⟩ : ∃ x, x = ab ^^^ ac := ⟨_, rfl⟩
      rw [← hm1e] at qm1 lm1
      have qbc := u32_and_nat b c hb' hc
      have lbc : b &&& c < 4294967296 := and_lt32 hb'
      obtain ⟨bc, hbce⟩ : ∃ x, x = b &&& c := ⟨_, rfl⟩
      rw [← hbce] at qbc lbc
      have qmj := u32_xor_nat m1 bc lm1 lbc
      have lmj : m1 ^^^ bc < 4294967296 := xor_lt32 lm1 lbc
      obtain ⟨mj, hmje⟩ : ∃ x, x = m1 ^^^ bc := ⟨_, rfl⟩
      rw [← hmje] at qmj lmj
      have HONE := Lib.hid (show (St.mk a b c d e f g y).one kt wt = (y + e2 + ch + kt + wt) % 4294967296 by simp only [St.one]; rw [← hr6e, ← hr11e, ← hr25e, ← he1e, ← he2e, ← hefe, ← hnee, ← hnge, ← hche])
      have HTWO := Lib.hid (show (St.mk a b c d e f g y).two = (a2 + mj) % 4294967296 by simp only [St.two]; rw [← hr2e, ← hr13e, ← hr22e, ← ha1e, ← ha2e, ← habe, ← hace, ← hm1e, ← hbce, ← hmje])
      clear hr6e hr11e hr25e hr2e hr13e hr22e he1e he2e hefe hnee hnge hche ha1e ha2e habe hace hm1e hbce hmje le1 le2 lef lne lng lch la1 la2 lab lac lm1 lbc lmj hr6 hr11 hr25 hr2 hr13 hr22
      have li : (t : Int) < 64 := by omega
      go_wp2
      go_quiet (fail)
      obtain ⟨w4, hw4⟩ : ∃ w4, w4 = wr.drewN nq := ⟨_, rfl⟩
      rw [← hw4]
      have HV4 := Lib.hid (show w4.heap[vb]? = some (.cells (St.mk a b c d e f g y).cells 371 (0, 0)) by subst hw4; exact HV.out)
      have HB4 := Lib.hid (show Below vb w2 w4 by subst hw4; exact ⟨HB.out.os, HB.out.tape, HB.out.output, HB.out.size, HB.out.block⟩)
      have c0' : w4.cell? ⟨vb, 0, none⟩ = some (.int .u32 (a : Int)) := by subst hw4; exact c0
      have c1' : w4.cell? ⟨vb, 1, none⟩ = some (.int .u32 (b : Int)) := by subst hw4; exact c1
      have c2' : w4.cell? ⟨vb, 2, none⟩ = some (.int .u32 (c : Int)) := by subst hw4; exact c2
      have c3' : w4.cell? ⟨vb, 3, none⟩ = some (.int .u32 (d : Int)) := by subst hw4; exact c3
      have c4' : w4.cell? ⟨vb, 4, none⟩ = some (.int .u32 (e : Int)) := by subst hw4; exact c4
      have c5' : w4.cell? ⟨vb, 5, none⟩ = some (.int .u32 (f : Int)) := by subst hw4; exact c5
      have c6' : w4.cell? ⟨vb, 6, none⟩ = some (.int .u32 (g : Int)) := by subst hw4; exact c6
      have c7' : w4.cell? ⟨vb, 7, none⟩ = some (.int .u32 (y : Int)) := by subst hw4; exact c7
      have ck' : w4.cell? ⟨3, t, none⟩ = some (.int .u32 (kt : Int)) := by subst hw4; exact ck
      have cw' : w4.cell? ⟨wb, t, none⟩ = some (.int .u32 (wt : Int)) := by subst hw4; exact cw
      clear c0 c1 c2 c3 c4 c5 c6 c7 ck cw
      have c0 := c0'
      have c1 := c1'
      have c2 := c2'
      have c3 := c3'
      have c4 := c4'
      have c5 := c5'
      have c6 := c6'
      have c7 := c7'
      have ck := ck'
      have cw := cw'
      clear c0' c1' c2' c3' c4' c5' c6' c7' ck' cw'
      clear hw4 HV HB
      go_wp2
      refine wp_region_ord (fun w' => w'.cell? ⟨vb, 7, none⟩ = some (.int .u32 (y : Int)) ∧ w'.cell? ⟨vb, 5, none⟩ = some (.int .u32 (f : Int)) ∧ w'.cell? ⟨vb, 6, none⟩ = some (.int .u32 (g : Int)) ∧ w'.cell? ⟨3, t, none⟩ = some (.int .u32 (kt : Int)) ∧ w'.cell? ⟨wb, t, none⟩ = some (.int .u32 (wt : Int))) [(0, false), (1, false), (2, false), (4, false), (7, false), (11, false), (12, false), (13, false), (14, false), (15, false), (16, false), (17, false), (18, false), (19, false), (20, false), (22, false), (23, false), (24, false), (26, false), (27, false), (28, false), (3, true), (5, true), (6, false), (8, true), (9, false), (10, false), (21, false), (25, false), (29, false), (30, false)] (by kernel_rfl) (by kernel_rfl) (fun _ _ d _ _ h => by cases d <;> exact h) ⟨c7, c5, c6, ck, cw⟩ ?_
      iterate 21
        refine heldL ?_ ?_ (by rfl) (by rfl) (fun w' s1 => ?_) ?_ ?_
        rotate_left 2
        focus (obtain ⟨s1, s2, s3, s4, s5⟩ := s1; go_simp; exact rfl)
        focus (go_simp; exact rfl)
      refine actSL (by rfl) (by rfl) (fun K hK => ?_)
      go_wp2_with fail
      refine (T6.out _).mono ?_
      rintro r wx ⟨rfl, rfl⟩
      refine hK _ _ ⟨c7, c5, c6, ck, cw⟩ ?_
      clear hK
      refine actSL (by rfl) (by rfl) (fun K hK => ?_)
      go_wp2_with fail
      refine (T11.out _).mono ?_
      rintro r wx ⟨rfl, rfl⟩
      refine hK _ _ ⟨c7, c5, c6, ck, cw⟩ ?_
      clear hK
      iterate 1
        refine heldL ?_ ?_ (by rfl) (by rfl) (fun w' s1 => ?_) ?_ ?_
        rotate_left 2
        focus (obtain ⟨s1, s2, s3, s4, s5⟩ := s1; go_simp; exact rfl)
        focus (go_simp; exact rfl)
      refine actSL (by rfl) (by rfl) (fun K hK => ?_)
      go_wp2_with fail
      refine (T25.out _).mono ?_
      rintro r wx ⟨rfl, rfl⟩
      refine hK _ _ ⟨c7, c5, c6, ck, cw⟩ ?_
      clear hK
      iterate 6
        refine heldL ?_ ?_ (by rfl) (by rfl) (fun w' s1 => ?_) ?_ ?_
        rotate_left 2
        focus (obtain ⟨s1, s2, s3, s4, s5⟩ := s1; go_simp; exact rfl)
        focus (go_simp; exact rfl)
      refine nilL ?_
      have hw1 : IntKind.u32.wrap (IntKind.u32.wrap (IntKind.u32.wrap (IntKind.u32.wrap ((y : Int) + (e2 : Int)) + (ch : Int)) + (kt : Int)) + (wt : Int)) = (((St.mk a b c d e f g y).one kt wt : Nat) : Int) := by simp only [IntKind.wrap_u32]; rw [HONE.out]; omega
      go_simp
      try rw [hw1]
      have HTWO' := HTWO
      obtain ⟨one, hone⟩ : ∃ x, x = (St.mk a b c d e f g y).one kt wt := ⟨_, rfl⟩
      rw [← hone]
      have HONE1 := Lib.hid hone
      have HON := Lib.hid hone
      have lone : one < 4294967296 := by rw [hone]; exact Nat.mod_lt _ (by decide)
      clear hw1 hone HONE T6 T11 T25 ck cw
      go_wp2
      refine wp_region_ord (fun w' => w'.cell? ⟨vb, 1, none⟩ = some (.int .u32 (b : Int)) ∧ w'.cell? ⟨vb, 2, none⟩ = some (.int .u32 (c : Int))) [(0, false), (2, false), (5, false), (8, false), (9, false), (10, false), (11, false), (12, false), (13, false), (14, false), (15, false), (16, false), (17, false), (18, false), (19, false), (20, false), (21, false), (22, false), (1, true), (3, true), (4, false), (6, true), (7, false), (23, false), (24, false)] (by kernel_rfl) (by kernel_rfl) (fun _ _ d _ _ h => by cases d <;> exact h) ⟨c1, c2⟩ ?_
      iterate 18
        refine heldL ?_ ?_ (by rfl) (by rfl) (fun w' s1 => ?_) ?_ ?_
        rotate_left 2
        focus (obtain ⟨s1, s2⟩ := s1; go_simp; exact rfl)
        focus (go_simp; exact rfl)
      refine actSL (by rfl) (by rfl) (fun K hK => ?_)
      go_wp2_with fail
      refine (T2.out _).mono ?_
      rintro r wx ⟨rfl, rfl⟩
      refine hK _ _ ⟨c1, c2⟩ ?_
      clear hK
      refine actSL (by rfl) (by rfl) (fun K hK => ?_)
      go_wp2_with fail
      refine (T13.out _).mono ?_
      rintro r wx ⟨rfl, rfl⟩
      refine hK _ _ ⟨c1, c2⟩ ?_
      clear hK
      iterate 1
        refine heldL ?_ ?_ (by rfl) (by rfl) (fun w' s1 => ?_) ?_ ?_
        rotate_left 2
        focus (obtain ⟨s1, s2⟩ := s1; go_simp; exact rfl)
        focus (go_simp; exact rfl)
      refine actSL (by rfl) (by rfl) (fun K hK => ?_)
      go_wp2_with fail
      refine (T22.out _).mono ?_
      rintro r wx ⟨rfl, rfl⟩
      refine hK _ _ ⟨c1, c2⟩ ?_
      clear hK
      iterate 3
        refine heldL ?_ ?_ (by rfl) (by rfl) (fun w' s1 => ?_) ?_ ?_
        rotate_left 2
        focus (obtain ⟨s1, s2⟩ := s1; go_simp; exact rfl)
        focus (go_simp; exact rfl)
      refine nilL ?_
      have hw2 : IntKind.u32.wrap ((a2 : Int) + (mj : Int)) = (((St.mk a b c d e f g y).two : Nat) : Int) := by simp only [IntKind.wrap_u32]; rw [HTWO.out]; omega
      go_simp
      try rw [hw2]
      obtain ⟨two, htwo⟩ : ∃ x, x = (St.mk a b c d e f g y).two := ⟨_, rfl⟩
      rw [← htwo]
      have HTWO1 := Lib.hid htwo
      have ltwo : two < 4294967296 := by rw [htwo]; exact Nat.mod_lt _ (by decide)
      have hone' := HON.out
      obtain ⟨nx, hnx⟩ : ∃ x, x = (one + two) % 4294967296 := ⟨_, rfl⟩
      have hnxi : ((one : Int) + (two : Int)) % 4294967296 = (nx : Int) := by omega
      obtain ⟨nd, hnd⟩ : ∃ x, x = (d + one) % 4294967296 := ⟨_, rfl⟩
      have hndi : ((d : Int) + (one : Int)) % 4294967296 = (nd : Int) := by omega
      have HST := Lib.hid (show (St.mk a b c d e f g y).step kt wt = ⟨nx, a, b, c, nd, e, f, g⟩ by rw [hnx, hnd, hone', htwo]; rfl)
      have hsz8 : (Tryz.prog.info? 371).map (·.size) = some 8 := by kernel_rfl
      have HSZ8 := Lib.hid hsz8
      clear hw2 htwo HTWO HTWO' T2 T13 T22 hnx hnd hsz8 hone'
      have fz0 : w4.frozen? ⟨vb, 0, none⟩ = false := frozen_of_block HV4.out
      have fz1 : w4.frozen? ⟨vb, 1, none⟩ = false := frozen_of_block HV4.out
      have fz2 : w4.frozen? ⟨vb, 2, none⟩ = false := frozen_of_block HV4.out
      have fz3 : w4.frozen? ⟨vb, 3, none⟩ = false := frozen_of_block HV4.out
      have fz4 : w4.frozen? ⟨vb, 4, none⟩ = false := frozen_of_block HV4.out
      have fz5 : w4.frozen? ⟨vb, 5, none⟩ = false := frozen_of_block HV4.out
      have fz6 : w4.frozen? ⟨vb, 6, none⟩ = false := frozen_of_block HV4.out
      have fz7 : w4.frozen? ⟨vb, 7, none⟩ = false := frozen_of_block HV4.out
      go_wp2
      · refine ⟨⟨t + 1, by go_num, by omega, Lib.hid ?_, Lib.hid ?_⟩, by simp [intOf]; omega⟩
        · rw [HNX.out, HST.out]
          exact set8_heap HV4.out nx a b c nd e f g
        · exact set8_below HB4.out nx a b c nd e f g
    · have k64 : decide ((t : Int) < 64) = false := decide_eq_false (by omega)
      have ht64 : t = 64 := by omega
      obtain ⟨V, hV⟩ : ∃ V, V = rounds W s 64 := ⟨_, rfl⟩
      have HVE := Lib.hid hV
      have HV' := Lib.hid (show wr.heap[vb]? = some (.cells V.cells 371 (0, 0)) by have := HV.out; rw [ht64, ← hV] at this; exact this)
      have HVok := Lib.hid (show V.Ok by rw [hV]; exact rounds_ok W HOK.out 64)
      have hne : sb ≠ vb := by have := HLT.out; have := HBB.out.size; have := HVB.out; omega
      have HNE := Lib.hid hne
      have hbw : Below w.heap.size w wr := HBB.out.trans (((HVB.out ▸ HB.out : Below w2.heap.size w2 wr)).mono HBB.out.size)
      have HSI := Lib.hid (show ∀ k, k < 8 → wr.cell? ⟨sb, so + k, none⟩ = some (.int .u32 ((if k < 0 then (s.at k + V.at k) % 4294967296 else s.at k : Nat) : Int)) ∧ wr.frozen? ⟨sb, so + k, none⟩ = false from fun k hk => by
        have h1 := HS.out k hk
        refine ⟨?_, (World.frozen?_of_block (w := w) (hbw.block sb HLT.out)).trans h1.2⟩
        rw [hbw.cell (p := ⟨sb, so + k, none⟩) HLT.out, h1.1, St.cells_at s k hk, if_neg (by omega)])
      have HT0 := Lib.hid (show Turn (fun b => b = sb) w wr from Turn.of_below hbw)
      have HP0 := Lib.hid (show Shape w wr sb from Shape.of_block (hbw.block sb HLT.out))
      have HC0 := Lib.hid (show ∀ p : Addr, p.block < w.heap.size → ¬ (p.block = sb ∧ so ≤ p.off ∧ p.off < so + 8) → wr.cell? p = w.cell? p from fun p hp _ => hbw.cell hp)
      clear HV HB ht64 hV hne hbw ht hlt
      go_wp2
      go_loopw [99] (fun v wr => ∃ i : Nat, v = .int .i64 i ∧ i ≤ 8 ∧ Hid (wr.heap[vb]? = some (.cells V.cells 371 (0, 0))) ∧ Hid (∀ k, k < 8 → wr.cell? ⟨sb, so + k, none⟩ = some (.int .u32 ((if k < i then (s.at k + V.at k) % 4294967296 else s.at k : Nat) : Int)) ∧ wr.frozen? ⟨sb, so + k, none⟩ = false) ∧ Hid (Turn (fun b => b = sb) w wr) ∧ Hid (∀ p : Addr, p.block < w.heap.size → ¬ (p.block = sb ∧ so ≤ p.off ∧ p.off < so + 8) → wr.cell? p = w.cell? p) ∧ Hid (Shape w wr sb)) (fun v _ => 8 - (intOf v).toNat)
      case atStart => exact ⟨0, rfl, by omega, HV', HSI, HT0, HC0, HP0⟩
      case round =>
        clear HV' HSI HT0 HC0 HP0
        obtain ⟨i, rfl, hi, HV, HSI, HT, HC, HP⟩ := hrel
        by_cases hlt : i < 8
        · have h1 := HSI.out i hlt
          rw [if_neg (by omega)] at h1
          obtain ⟨c1, c3⟩ := h1
          have c2 : wr.cell? ⟨vb, i, none⟩ = some (.int .u32 ((V.at i : Nat) : Int)) := by
            rw [cell_of_block (off := i) HV.out (by show i < 8; exact hlt)]
            have := St.cells_at V i hlt
            rw [← this]
            simp [Array.getD, St.cells, hlt]
          obtain ⟨x, hx⟩ : ∃ x, x = s.at i := ⟨_, rfl⟩
          obtain ⟨z, hz⟩ : ∃ z, z = V.at i := ⟨_, rfl⟩
          rw [← hx] at c1
          rw [← hz] at c2
          have HXZ := Lib.hid (And.intro hx hz)
          obtain ⟨n, hn⟩ : ∃ n, n = (x + z) % 4294967296 := ⟨_, rfl⟩
          have hni : ((x : Int) + (z : Int)) % 4294967296 = (n : Int) := by omega
          have HN := Lib.hid hn
          have li8 : (i : Int) < 8 := by omega
          clear hx hz hn
          go_wp2
          refine wp_region_ord (fun w' => w'.cell? ⟨sb, so + i, none⟩ = some (.int .u32 (x : Int)) ∧ w'.cell? ⟨vb, i, none⟩ = some (.int .u32 (z : Int)) ∧ w'.frozen? ⟨sb, so + i, none⟩ = false) [(0, false), (1, false), (2, false), (3, false), (4, false), (5, false), (6, false), (7, false), (8, false), (9, false), (10, false), (11, true)] (by kernel_rfl) (by kernel_rfl) (fun _ _ d _ _ h => by cases d <;> exact h) ⟨c1, c2, c3⟩ ?_
          iterate 11
            refine heldL ?_ ?_ (by rfl) (by rfl) (fun w' s1 => ?_) ?_ ?_
            rotate_left 2
            focus (obtain ⟨s1, s2, s3⟩ := s1; go_simp; exact rfl)
            focus (go_simp; exact rfl)
          refine actL (by kernel_rfl) (by rfl) (by rfl) (fun K hK => ?_)
          go_wp2_with fail
          refine nilL ?_
          go_wp2
          have hval : (if i < i + 1 then (s.at i + V.at i) % 4294967296 else s.at i) = n := by rw [if_pos (by omega), HN.out, ← HXZ.out.1, ← HXZ.out.2]
          refine ⟨⟨i + 1, by go_num, by omega, Lib.hid ((block_other HNE.out _).trans HV.out), Lib.hid fun k hk => ?_, Lib.hid ((HT.out.setCell (p := ⟨sb, so + i, none⟩) (.inl rfl) _).drew), Lib.hid fun p hp hn => ?_, Lib.hid (HP.out.trans (Shape.set _ _ _ _))⟩, by simp [intOf]; omega⟩
          · by_cases hki : k = i
            · subst hki
              rw [hval]
              refine ⟨World.cell?_setCell_same _ _ _ c1, ?_⟩
              rw [show ∀ w : World, w.drew.frozen? ⟨sb, so + k, none⟩ = w.frozen? ⟨sb, so + k, none⟩ from fun _ => rfl, World.frozen?_setCell]
              exact (HSI.out k hk).2
            · have h2 := HSI.out k hk
              have e1 : (if k < i + 1 then (s.at k + V.at k) % 4294967296 else s.at k) = (if k < i then (s.at k + V.at k) % 4294967296 else s.at k) := by split <;> split <;> first | rfl | omega
              rw [e1]
              refine ⟨(World.cell?_setCell_other _ _ _ _ (fun e => hki (by injection e with _ e; omega))).trans h2.1, ?_⟩
              rw [show ∀ w : World, w.drew.frozen? ⟨sb, so + k, none⟩ = w.frozen? ⟨sb, so + k, none⟩ from fun _ => rfl, World.frozen?_setCell]
              exact h2.2
          · exact (World.cell?_setCell_other _ _ _ _ (fun e => hn (by rw [← e]; exact ⟨rfl, by show so ≤ so + i; omega, by show so + i < so + 8; omega⟩))).trans (HC.out p hp hn)
        · have hi8 : i = 8 := by omega
          have HFIN := Lib.hid (show StAt wr sb so (s.take blk.data.toList) from fun k hk => by
            have h2 := HSI.out k hk
            rw [if_pos (by omega)] at h2
            refine ⟨?_, h2.2⟩
            rw [h2.1, St.cells_at _ k hk]
            have e : (s.take blk.data.toList).at k = (s.at k + V.at k) % 4294967296 := by
              unfold St.take
              rw [← HWE.out, ← HVE.out]
              match k, hk with
              | 0, _ => rfl
              | 1, _ => rfl
              | 2, _ => rfl
              | 3, _ => rfl
              | 4, _ => rfl
              | 5, _ => rfl
              | 6, _ => rfl
              | 7, _ => rfl
            rw [e])
          have k8 : decide ((i : Int) < 8) = false := decide_eq_false (by omega)
          clear hi8 hlt hi
          go_wp2
          go_end0
          exact ⟨rfl, HFIN.out, HC.out, HT.out, HP.out⟩
end Go.Proofs.YtblkehdpenfhjaaGreatDoor
/-
  Package sha: blocks.
-/
set_option linter.unusedVariables false
set_option linter.unusedSimpArgs false
namespace Go.Proofs.YtblkehdpenfhjaaGreatDoor
open Go.RowKit

def GlobB (b : Nat) : Prop := b = 1 ∨ b = 3
theorem Glob.turn {w w' : World} {F : Nat → Prop} (h : Glob w) (ht : Turn F w w') (hF : ∀ b, GlobB b → ¬ F b) : Glob w' := by
  obtain ⟨t, fr, h1⟩ := h.begin'
  obtain ⟨t2, fr2, h2⟩ := h.table
  exact ⟨⟨t, fr, (ht.block _ (block_lt h1) (hF _ (.inl rfl))).trans h1⟩, ⟨t2, fr2, (ht.block _ (block_lt h2) (hF _ (.inr rfl))).trans h2⟩⟩
theorem Glob.new {w : World} (h : Glob w) {b : Nat} (hb : w.heap.size ≤ b) : ¬ GlobB b := by
  obtain ⟨t, fr, h1⟩ := h.begin'
  obtain ⟨t2, fr2, h2⟩ := h.table
  have := block_lt h1
  have := block_lt h2
  rintro (rfl | rfl) <;> omega
/-- n blocks of d taken -/
def takes (s : St) (d : List UInt8) : Nat → St
  | 0 => s
  | n + 1 => (takes s d n).take ((d.drop (64 * n)).take 64)
theorem St.Ok.take (s : St) (b : List UInt8) : (s.take b).Ok := St.Ok.add _ _
theorem takes_ok {s : St} (h : s.Ok) (d : List UInt8) : ∀ n, (takes s d n).Ok
  | 0 => h
  | n + 1 => St.Ok.take _ _
theorem extract_list (b : ByteArray) (i j : Nat) : (b.extract i j).data.toList = (b.data.toList.drop i).take (j - i) := by
  simp [ByteArray.data_extract, List.extract_eq_take_drop]
set_option maxHeartbeats 4000000 in
set_option maxRecDepth 100000 in
theorem blocks_calls (s : St) (hok : s.Ok) (d : ByteArray) (hd : d.size ≤ maxLen) (sb so : Nat) (hg : ¬ GlobB sb) (w : World) (hG : Glob w) (hS : StAt w sb so s) (hlt : sb < w.heap.size) :
    Calls Tryz.prog 368 #[.string d, .func (.func 367) #[.pointer (some ⟨sb, so, none⟩)] #[]] w fun r w' =>
      r = .returned (.string (mk (d.data.toList.drop (64 * (d.size / 64))))) ∧ StAt w' sb so (takes s d.data.toList (d.size / 64)) ∧
      (∀ p : Addr, p.block < w.heap.size → ¬ (p.block = sb ∧ so ≤ p.off ∧ p.off < so + 8) → w'.cell? p = w.cell? p) ∧ Turn (fun b => b = sb) w w' ∧ Shape w w' sb := by
  have HOK := Lib.hid hok
  have HG := Lib.hid hG
  have HGB := Lib.hid hg
  have HS := Lib.hid hS
  have HLT := Lib.hid hlt
  have HD := Lib.hid (show d.size ≤ 9223372036854775807 by unfold maxLen at hd; omega)
  clear hok hG hS hlt hg hd
  go_enter Tryz.func368, Tryz.ntmps368
  go_wp2
  go_loopw [0] (fun v wr => ∃ (n : Nat) (x : ByteArray), v = .string x ∧ Hid (64 * n ≤ d.size ∧ x.data.toList = d.data.toList.drop (64 * n)) ∧ Hid (StAt wr sb so (takes s d.data.toList n)) ∧ Hid (Turn (fun b => b = sb) w wr) ∧ Hid (∀ p : Addr, p.block < w.heap.size → ¬ (p.block = sb ∧ so ≤ p.off ∧ p.off < so + 8) → wr.cell? p = w.cell? p) ∧ Hid (Shape w wr sb)) (fun v _ => match v with | .string x => x.size | _ => 0)
  case atStart => exact ⟨0, d, rfl, Lib.hid ⟨by omega, rfl⟩, HS, Lib.hid (Turn.refl _ _), Lib.hid fun p _ _ => rfl, Lib.hid (Shape.of_block rfl)⟩
  case round =>
    obtain ⟨n, x, rfl, HX, HSn, HT, HC, HP⟩ := hrel
    have hxs : x.size = d.size - 64 * n := by
      have := congrArg List.length HX.out.2
      simpa using this
    have hx63 : x.size ≤ 9223372036854775807 := by have := HD.out; omega
    have HXS := Lib.hid hxs
    clear hxs
    by_cases hlt : 64 ≤ x.size
    · have hk : decide (64 ≤ (x.size : Int)) = true := decide_eq_true (by omega)
      go_wp2_with fail
      refine (take_calls (takes s d.data.toList n) (takes_ok HOK.out _ n) (x.extract 0 64) (by simp [ByteArray.size_extract]; omega) sb so wr (HG.out.turn HT.out (fun b h e => HGB.out (e ▸ h))) HSn.out (Nat.lt_of_lt_of_le HLT.out HT.out.size)).mono ?_
      rintro r w1 ⟨rfl, h1, h2, h3, h4⟩
      have H4 := Lib.hid h4
      have H1 := Lib.hid h1
      have H2 := Lib.hid h2
      have H3 := Lib.hid h3
      clear h1 h2 h3 h4
      go_wp2
      have hx2 := HXS.out
      have hx3 := HX.out
      have hb0 : (x.extract 0 64).data.toList = (d.data.toList.drop (64 * n)).take 64 := by rw [extract_list, hx3.2]; rfl
      refine ⟨⟨n + 1, x.extract 64 x.size, rfl, Lib.hid ⟨by omega, ?_⟩, Lib.hid ?_, Lib.hid (HT.out.trans H3.out), Lib.hid fun p hp hn => ?_, Lib.hid (HP.out.trans H4.out)⟩, ?_⟩
      · rw [extract_list, hx3.2, List.drop_drop, List.take_of_length_le (by simp; omega)]
        rfl
      · show StAt w1 sb so ((takes s d.data.toList n).take ((d.data.toList.drop (64 * n)).take 64))
        rw [← hb0]
        exact H1.out
      · exact (H2.out p (Nat.lt_of_lt_of_le hp HT.out.size) hn).trans (HC.out p hp hn)
      · show (x.extract 64 x.size).size < x.size
        rw [ByteArray.size_extract]; omega
    · have hk : decide (64 ≤ (x.size : Int)) = false := decide_eq_false (by omega)
      go_wp2
      have hx2 := HXS.out
      have hx3 := HX.out
      have hn : n = d.size / 64 := by omega
      subst hn
      have hxe : x = mk (d.data.toList.drop (64 * (d.size / 64))) := bytes_ext (by rw [mk_list]; exact hx3.2)
      go_ret
      exact ⟨by rw [hxe]; rfl, HSn.out, HC.out, HT.out, HP.out⟩
end Go.Proofs.YtblkehdpenfhjaaGreatDoor
/-
  Package sha: what a Hash is; plain laws of blocks.
-/
set_option linter.unusedVariables false
set_option linter.unusedSimpArgs false
namespace Go.Proofs.YtblkehdpenfhjaaGreatDoor
open Go.RowKit

theorem takes_congr {d e : List UInt8} (s : St) : ∀ n, (∀ i, i < n → (d.drop (64 * i)).take 64 = (e.drop (64 * i)).take 64) → takes s d n = takes s e n
  | 0, _ => rfl
  | n + 1, h => by
    show (takes s d n).take _ = (takes s e n).take _
    rw [takes_congr s n (fun i hi => h i (by omega)), h n (by omega)]
theorem takes_pre (s : St) (d y : List UInt8) (n : Nat) (h : 64 * n ≤ d.length) : takes s (d ++ y) n = takes s d n := by
  refine takes_congr s n fun i hi => ?_
  rw [List.drop_append_of_le_length (by omega), List.take_append_of_le_length (by simp; omega)]
theorem takes_add (s : St) (d : List UInt8) (m : Nat) : ∀ n, takes s d (m + n) = takes (takes s d m) (d.drop (64 * m)) n
  | 0 => rfl
  | n + 1 => by
    show (takes s d (m + n)).take _ = (takes (takes s d m) (d.drop (64 * m)) n).take _
    rw [takes_add s d m n, List.drop_drop, show 64 * m.add n = 64 * m + 64 * n from Nat.mul_add 64 m n]
/-- the state at the beginning -/
def BEGS : St := ⟨1779033703, 3144134277, 1013904242, 2773480762, 1359893119, 2600822924, 528734635, 1541459225⟩
theorem BEGS_ok : BEGS.Ok := by constructor <;> decide
/-- the state behind d's whole blocks -/
def stOf (d : List UInt8) : St := takes BEGS d (d.length / 64)
theorem stOf_ok (d : List UInt8) : (stOf d).Ok := takes_ok BEGS_ok _ _
def tailOf (d : List UInt8) : List UInt8 := d.drop (64 * (d.length / 64))
theorem tailOf_length (d : List UInt8) : (tailOf d).length = d.length % 64 := by unfold tailOf; rw [List.length_drop]; omega
/-- what stands ahead of Write's last two lines: the state, the rest, the text still to be taken; D: all that will have been taken -/
structure Pre (s1 : St) (rest1 x1 D : List UInt8) : Prop where
  len : rest1.length = 64
  st : takes s1 x1 (x1.length / 64) = stOf D
  tail : (tailOf x1 ++ rest1.drop (x1.length % 64)).take (D.length % 64) = tailOf D
theorem stOf_app {d1 x1 : List UInt8} (h : d1.length % 64 = 0) : takes (stOf d1) x1 (x1.length / 64) = stOf (d1 ++ x1) := by
  unfold stOf
  have e : (d1 ++ x1).length / 64 = d1.length / 64 + x1.length / 64 := by rw [List.length_append]; omega
  rw [e, takes_add, takes_pre _ _ _ _ (by omega)]
  rw [List.drop_append_of_le_length (by omega), List.drop_of_length_le (by omega), List.nil_append]
theorem tailOf_app {d1 x1 : List UInt8} (h : d1.length % 64 = 0) : tailOf (d1 ++ x1) = tailOf x1 := by
  unfold tailOf
  have e : 64 * ((d1 ++ x1).length / 64) = d1.length + 64 * (x1.length / 64) := by rw [List.length_append]; omega
  rw [e, ← List.drop_drop, List.drop_left]
theorem Pre.whole {d1 rest1 x1 : List UInt8} (h : d1.length % 64 = 0) (hr : rest1.length = 64) : Pre (stOf d1) rest1 x1 (d1 ++ x1) := by
  refine ⟨hr, stOf_app h, ?_⟩
  rw [tailOf_app h]
  have e : (d1 ++ x1).length % 64 = (tailOf x1).length := by rw [tailOf_length, List.length_append]; omega
  rw [e, List.take_left]
theorem stOf_full {d y : List UInt8} (h : d.length % 64 + y.length = 64) : (stOf d).take (tailOf d ++ y) = stOf (d ++ y) := by
  have e : (d ++ y).length / 64 = d.length / 64 + 1 := by rw [List.length_append]; omega
  unfold stOf
  rw [e]
  show _ = (takes BEGS (d ++ y) (d.length / 64)).take _
  rw [takes_pre _ _ _ _ (by omega)]
  congr 1
  rw [List.drop_append_of_le_length (by omega), List.take_of_length_le (by simp; omega)]
  rfl
theorem Pre.full {d rest x : List UInt8} (hr : rest.length = 64) (ht : rest.take (d.length % 64) = tailOf d) (h : 64 ≤ d.length % 64 + x.length) :
    Pre ((stOf d).take (rest.take (d.length % 64) ++ x.take (64 - d.length % 64))) (rest.take (d.length % 64) ++ x.take (64 - d.length % 64)) (x.drop (64 - d.length % 64)) (d ++ x) := by
  have hy : (x.take (64 - d.length % 64)).length = 64 - d.length % 64 := by rw [List.length_take]; omega
  rw [ht, stOf_full (by omega)]
  have e : d ++ x = (d ++ x.take (64 - d.length % 64)) ++ x.drop (64 - d.length % 64) := by rw [List.append_assoc, List.take_append_drop]
  conv => rhs; rw [e]
  exact Pre.whole (by rw [List.length_append, hy]; omega) (by rw [List.length_append, tailOf_length, hy]; omega)
theorem Pre.short {d rest x : List UInt8} (hr : rest.length = 64) (ht : rest.take (d.length % 64) = tailOf d) (h : d.length % 64 + x.length < 64) :
    Pre (stOf d) (rest.take (d.length % 64) ++ x ++ rest.drop (d.length % 64 + x.length)) [] (d ++ x) := by
  have e : (d ++ x).length / 64 = d.length / 64 := by rw [List.length_append]; omega
  have e2 : (d ++ x).length % 64 = d.length % 64 + x.length := by rw [List.length_append]; omega
  refine ⟨by simp; omega, ?_, ?_⟩
  · unfold stOf
    rw [e, takes_pre _ _ _ _ (by omega)]
    rfl
  · rw [show tailOf ([] : List UInt8) = [] from rfl, List.nil_append, show ([] : List UInt8).length % 64 = 0 from rfl, List.drop_zero, e2]
    rw [List.take_append_of_le_length (by simp; omega), List.take_of_length_le (by rw [List.length_append, List.length_take]; omega), ht]
    unfold tailOf
    rw [e, List.drop_append_of_le_length (by omega)]
def HC (s : St) (rest : List UInt8) (n : Nat) : Array Value := (s.cells.toList ++ (rest.map bv ++ [Value.int .i64 (n : Int)])).toArray
theorem HC_size {s : St} {rest : List UInt8} {n : Nat} (h : rest.length = 64) : (HC s rest n).size = 73 := by simp [HC, St.cells, h]
/-- the Hash at block hb has taken d -/
def HashIs (w : World) (hb : Nat) (d : List UInt8) : Prop := ∃ rest, w.heap[hb]? = some (.cells (HC (stOf d) rest d.length) 374 (0, 0)) ∧ rest.length = 64 ∧ rest.take (d.length % 64) = tailOf d
theorem cells_at {w : World} {hb : Nat} {c : Array Value} {t : TypeId} (hw : w.heap[hb]? = some (.cells c t (0, 0))) (i : Nat) : w.cell? ⟨hb, i, none⟩ = c[i]? := by
  simp [World.cell?, hw]
theorem HC_at (s : St) (rest : List UInt8) (n i : Nat) : (HC s rest n)[i]? = (s.cells.toList ++ (rest.map bv ++ [Value.int .i64 (n : Int)]))[i]? := List.getElem?_toArray ..
theorem HC_at_st (s : St) (rest : List UInt8) (n i : Nat) (h : i < 8) : (HC s rest n)[i]? = some (s.cells.getD i undef) := by
  have hl : s.cells.toList.length = 8 := rfl
  have hl2 : s.cells.size = 8 := rfl
  rw [HC_at, List.getElem?_append_left (by omega)]
  simp [Array.getD, hl2, h]
theorem HC_at_rest (s s' : St) (rest : List UInt8) (n i : Nat) (h : 8 ≤ i) : (HC s rest n)[i]? = (HC s' rest n)[i]? := by
  have hl : s.cells.toList.length = 8 := rfl
  have hl' : s'.cells.toList.length = 8 := rfl
  rw [HC_at, HC_at, List.getElem?_append_right (l₁ := s.cells.toList) (by omega), List.getElem?_append_right (l₁ := s'.cells.toList) (by omega)]
  rfl
theorem HC_st {s : St} {rest : List UInt8} {n : Nat} {w : World} {hb : Nat} {t : TypeId} (hw : w.heap[hb]? = some (.cells (HC s rest n) t (0, 0))) : StAt w hb 0 s := by
  intro i hi
  exact ⟨by rw [Nat.zero_add, cells_at hw, HC_at_st _ _ _ _ hi], frozen_of_block hw⟩
theorem HC_rest {s : St} {rest : List UInt8} {n : Nat} {w : World} {hb : Nat} {t : TypeId} (hw : w.heap[hb]? = some (.cells (HC s rest n) t (0, 0))) (i : Nat) (hi : i < rest.length) : w.cell? ⟨hb, 8 + i, none⟩ = some (bv rest[i]) := by
  have hl : s.cells.toList.length = 8 := rfl
  rw [cells_at hw, HC_at, List.getElem?_append_right (by omega), hl, Nat.add_sub_cancel_left, List.getElem?_append_left (by simpa using hi)]
  simp [hi]
theorem HC_long {s : St} {rest : List UInt8} {n : Nat} (h : rest.length = 64) {w : World} {hb : Nat} {t : TypeId} (hw : w.heap[hb]? = some (.cells (HC s rest n) t (0, 0))) : w.cell? ⟨hb, 72, none⟩ = some (.int .i64 (n : Int)) := by
  have hl : s.cells.toList.length = 8 := rfl
  rw [cells_at hw, HC_at, List.getElem?_append_right (by omega), hl, List.getElem?_append_right (by simp; omega)]
  simp [h]
/-- the state turned, the other cells not: the block behind it -/
theorem HC_turned {s s' : St} {rest : List UInt8} {n : Nat} (h : rest.length = 64) {w w' : World} {hb : Nat} {t : TypeId} (hw : w.heap[hb]? = some (.cells (HC s rest n) t (0, 0)))
    (hS : StAt w' hb 0 s') (hP : Shape w w' hb) (hC : ∀ off, 8 ≤ off → w'.cell? ⟨hb, off, none⟩ = w.cell? ⟨hb, off, none⟩) : w'.heap[hb]? = some (.cells (HC s' rest n) t (0, 0)) := by
  obtain ⟨c, h1, h2⟩ := hP _ _ hw
  rw [h1]
  have e : c = HC s' rest n := by
    refine Array.ext_getElem? fun i => ?_
    rw [← cells_at h1]
    by_cases h8 : i < 8
    · rw [HC_at_st _ _ _ _ h8, ← (hS i h8).1, Nat.zero_add]
    · rw [hC i (by omega), cells_at hw]
      exact HC_at_rest _ _ _ _ _ (by omega)
  rw [e]
theorem run_copy_str {P : Program} (w : World) (dT sT ty elem : TypeId) (g o dLen dCap m : Nat) (s : ByteArray) (cur : Array Value) (t : TypeId)
    (hu : P.underlying dT = some (.slice elem)) (hs : (P.info? elem).map (·.size) = some 1) (hg : w.heap[g]? = some (.cells cur t (0, 0))) (hm : m = Nat.min s.size dLen) (hfit : o + m ≤ cur.size) :
    (Builtin.copy_ #[dT, sT] ty #[.slice (some ⟨g, o, none⟩) dLen dCap, .string s]).run P w =
      .ok (goInt m) (w.setRow g (cur.toList.take o ++ ((s.data.toList.take m).map bv ++ cur.toList.drop (o + m))).toArray) := by
  have hlen : ((s.data.toList.take m).map bv).length = m := by
    rw [List.length_map, List.length_take, hm]
    have : s.data.toList.length = s.size := by simp
    have := Nat.min_le_left s.size dLen
    simp only [Nat.min_def] at *
    split <;> simp_all <;> omega
  have hone : ∀ v ∈ (s.data.toList.take m).map bv, v.oneCell' = true := by
    intro v hv
    obtain ⟨c, _, rfl⟩ := List.mem_map.1 hv
    rfl
  have hst := run_storeCells_at P g o t ((s.data.toList.take m).map bv) 0 cur w hg (by rw [hlen]; simpa using hfit) hone
  rw [hlen] at hst
  simp only [Nat.add_zero] at hst
  rw [List.map_take] at hst
  have htk : List.take m (List.map (fun b : UInt8 => Value.int IntKind.u8 (b.toNat : Int)) s.data.toList) = (s.data.toList.map bv).take m := rfl
  cases hq : P.info? elem with
  | none => simp [hq] at hs
  | some i =>
    have hi : i.size = 1 := by simpa [hq] using hs
    simp [Builtin.copy_, run_underlying hu, Builtin.lenOf, Builtin.firstCells, sizeOf, typeInfo, hq, hi, ← hm, htk, List.map_take, hst, Result.andThen]
end Go.Proofs.YtblkehdpenfhjaaGreatDoor
/-
  Package sha: Hash.Write.
-/
set_option linter.unusedVariables false
set_option linter.unusedSimpArgs false
namespace Go.Proofs.YtblkehdpenfhjaaGreatDoor
open Go.RowKit

set_option maxRecDepth 100000 in
theorem cutArr_l (hb h : Nat) (hlt : h < 64) (w : World) : (Instr.sliceAt 372 (.pointer (some ⟨hb, 8, none⟩)) (some (.int .i64 (h : Int))) none none).run Tryz.prog w = .ok (.slice (some ⟨hb, 8 + h, none⟩) (64 - h) (64 - h)) w := by
  have hu : Tryz.prog.underlying 372 = some (.array (Tryz.prog.arrayLen 372) (Tryz.prog.elem 372)) := by kernel_rfl
  have hl : Tryz.prog.arrayLen 372 = 64 := by kernel_rfl
  have hs : (Tryz.prog.info? (Tryz.prog.elem 372)).map (·.size) = some 1 := by kernel_rfl
  rw [run_sliceAt_array_l w _ _ hu .i64 h (by omega) (by rw [hl]; omega), hl]
  obtain ⟨i, hi, hi1⟩ := Option.map_eq_some_iff.1 hs
  simp [sizeOf, typeInfo, hi, hi1, Result.andThen, slicedAt, Addr.add_lit]
  omega
set_option maxRecDepth 100000 in
theorem cutArr_all (hb : Nat) (w : World) : (Instr.sliceAt 372 (.pointer (some ⟨hb, 8, none⟩)) none none none).run Tryz.prog w = .ok (.slice (some ⟨hb, 8, none⟩) 64 64) w := by
  have hu : Tryz.prog.underlying 372 = some (.array (Tryz.prog.arrayLen 372) (Tryz.prog.elem 372)) := by kernel_rfl
  have hl : Tryz.prog.arrayLen 372 = 64 := by kernel_rfl
  have hs : (Tryz.prog.info? (Tryz.prog.elem 372)).map (·.size) = some 1 := by kernel_rfl
  rw [run_sliceAt_array_all w _ _ hu, hl]
  obtain ⟨i, hi, hi1⟩ := Option.map_eq_some_iff.1 hs
  simp [sizeOf, typeInfo, hi, hi1, Result.andThen, slicedAt, Addr.add_lit]
set_option maxRecDepth 100000 in
theorem held_calls (n hb : Nat) (w : World) (h : w.cell? ⟨hb, 72, none⟩ = some (.int .i64 (n : Int))) :
    Calls Tryz.prog 366 #[.pointer (some ⟨hb, 0, none⟩)] w fun r w' => r = .returned (.int .i64 ((n % 64 : Nat) : Int)) ∧ w = w' := by
  go_enter Tryz.func366, Tryz.ntmps366
  have e : Int.tmod (n : Int) 64 = ((n % 64 : Nat) : Int) := by rw [Int.tmod_eq_emod_of_nonneg (by omega)]; omega
  go_wp2
  go_ret
  exact ⟨by first | rfl | (rw [e]; rfl) | simp, by first | rfl | trivial⟩
theorem HC_take8 (s : St) (rest : List UInt8) (n h : Nat) : (HC s rest n).toList.take (8 + h) = s.cells.toList ++ ((rest.map bv ++ [Value.int .i64 (n : Int)]).take h) := by
  show (s.cells.toList ++ _).take _ = _
  have hl : s.cells.toList.length = 8 := rfl
  rw [← hl, List.take_length_add_append]
theorem HC_drop8 (s : St) (rest : List UInt8) (n h : Nat) : (HC s rest n).toList.drop (8 + h) = ((rest.map bv ++ [Value.int .i64 (n : Int)]).drop h) := by
  show (s.cells.toList ++ _).drop _ = _
  have hl : s.cells.toList.length = 8 := rfl
  rw [← hl, List.drop_length_add_append]
set_option maxRecDepth 100000 in
theorem copy_rest (s : St) (rest : List UInt8) (n hb h m : Nat) (x : ByteArray) (w : World) (hr : rest.length = 64) (hh : h ≤ 64) (hm : m = Nat.min x.size (64 - h)) (hblk : w.heap[hb]? = some (.cells (HC s rest n) 374 (0, 0))) :
    ∃ w', (Builtin.copy_ #[108, 9] 3 #[.slice (some ⟨hb, 8 + h, none⟩) (64 - h) (64 - h), .string x]).run Tryz.prog w = .ok (.int .i64 (m : Int)) w' ∧
      w'.heap[hb]? = some (.cells (HC s (rest.take h ++ x.data.toList.take m ++ rest.drop (h + m)) n) 374 (0, 0)) ∧ Turn (fun b => b = hb) w w' := by
  have hmle : m ≤ 64 - h := by rw [hm]; exact Nat.min_le_right _ _
  have hmx : m ≤ x.data.toList.length := by
    have : x.data.toList.length = x.size := by simp
    rw [hm, this]; exact Nat.min_le_left _ _
  have hs : (Tryz.prog.info? 5).map (·.size) = some 1 := by kernel_rfl
  have hrun := run_copy_str (P := Tryz.prog) w 108 9 3 5 hb (8 + h) (64 - h) (64 - h) m x _ _ Tryz.underlying108 hs hblk hm (by rw [HC_size hr]; omega)
  have hsz2 : (HC s rest n).size = (HC s (rest.take h ++ x.data.toList.take m ++ rest.drop (h + m)) n).size := by rw [HC_size hr, HC_size (by rw [List.length_append, List.length_append, List.length_take, List.length_take, List.length_drop]; omega)]
  have e : ((HC s rest n).toList.take (8 + h) ++ ((x.data.toList.take m).map bv ++ (HC s rest n).toList.drop (8 + h + m))).toArray = HC s (rest.take h ++ x.data.toList.take m ++ rest.drop (h + m)) n := by
    unfold HC
    congr 1
    have h1 := HC_take8 s rest n h
    have h2 := HC_drop8 s rest n (h + m)
    rw [← Nat.add_assoc] at h2
    unfold HC at h1 h2
    rw [h1, h2, List.take_append_of_le_length (by simp; omega), List.drop_append_of_le_length (by simp; omega)]
    simp only [List.map_append, List.map_take, List.map_drop, List.append_assoc]
  rw [e] at hrun
  refine ⟨_, hrun, setRow_heap _ _ _ _ _ _ hblk, ?_⟩
  have hbl : ∀ c, Below hb w (w.setRow hb c) := fun c => below_setRow (Below.refl hb w) (Nat.le_refl _) c
  refine ⟨(hbl _).os, (hbl _).tape, (hbl _).output, (hbl _).size, fun k hk hF => ?_⟩
  unfold World.setRow
  simp [Array.getElem?_modify, Ne.symm hF]
set_option maxRecDepth 100000 in
theorem conv_rest {s : St} {rest : List UInt8} {n hb : Nat} {w : World} (hr : rest.length = 64) (hblk : w.heap[hb]? = some (.cells (HC s rest n) 374 (0, 0))) :
    (convert 108 9 (.slice (some ⟨hb, 8, none⟩) 64 64)).run Tryz.prog w = .ok (.string (mk rest)) w := by
  have hrun := run_convert_bytes_arg (P := Tryz.prog) w 108 5 Tryz.underlying108 Tryz.underlying5 hb 8 64 64 (rest.map fun c => (c.toNat : Int)) (by simpa using hr) (fun i hi => by
    have hi : i < rest.length := by rw [hr]; first | exact hi | simpa [hr] using hi
    rw [HC_rest hblk i hi]
    simp [bv, List.getD, hi]) 9 Tryz.underlying9
  rw [hrun]
  congr 2
  have e : strOfNums (rest.map fun c => (c.toNat : Int)) = ⟨rest.toArray⟩ := by
    unfold strOfNums
    congr 2
    rw [List.map_map]
    conv => rhs; rw [← List.map_id rest]
    apply List.map_congr_left
    intro c _
    simp
  rw [e]
  rfl
theorem HC_set {s : St} {rest : List UInt8} (h : rest.length = 64) (n m : Nat) : (HC s rest n).setIfInBounds 72 (.int .i64 (m : Int)) = HC s rest m := by
  have hl : s.cells.toList.length = 8 := rfl
  have hA : (s.cells.toList ++ rest.map bv).length = 72 := by rw [List.length_append, List.length_map, hl, h]
  unfold HC
  rw [List.setIfInBounds_toArray, ← List.append_assoc, ← List.append_assoc, List.set_append_right _ _ (by omega), hA]
  rfl
set_option maxHeartbeats 4000000 in
set_option maxRecDepth 100000 in
theorem write_calls (d : List UInt8) (x : ByteArray) (hd : d.length + x.size ≤ maxLen) (hb : Nat) (hg : ¬ GlobB hb) (w : World) (hG : Glob w) (hH : HashIs w hb d) :
    Calls Tryz.prog 356 #[.pointer (some ⟨hb, 0, none⟩), .string x] w fun r w' =>
      r = .returned (.int .i64 x.size) ∧ HashIs w' hb (d ++ x.data.toList) ∧ Turn (fun b => b = hb) w w' := by
  obtain ⟨rest, hblk, hrl, hrt⟩ := hH
  have c72 := HC_long hrl hblk
  have HG := Lib.hid hG
  have HGB := Lib.hid hg
  have HBK := Lib.hid hblk
  have HRT := Lib.hid hrt
  have HRL := Lib.hid hrl
  have HD := Lib.hid hd
  obtain ⟨n, hn⟩ : ∃ n, n = d.length := ⟨_, rfl⟩
  have HN := Lib.hid hn
  have x63 : x.size ≤ 9223372036854775807 := by unfold maxLen at hd; omega
  rw [← hn] at c72
  clear hG hg hblk hrt hrl hd hn
  go_enter Tryz.func356, Tryz.ntmps356
  go_wp2_with fail
  refine (held_calls n hb w c72).mono ?_
  rintro r w1 ⟨rfl, rfl⟩
  obtain ⟨h, hh⟩ : ∃ h, h = n % 64 := ⟨_, rfl⟩
  have h64 : h < 64 := by omega
  have HH := Lib.hid hh
  rw [← hh]
  clear hh
  by_cases h0 : h = 0
  · subst h0
    go_wp2
    obtain ⟨s1, hs1⟩ : ∃ s1, s1 = stOf d := ⟨_, rfl⟩
    have HS1 := Lib.hid (show s1.Ok by rw [hs1]; exact stOf_ok d)
    have HX1 := Lib.hid (show x.size ≤ maxLen by have := HD.out; omega)
    obtain ⟨rest1, hr1⟩ : ∃ r, r = rest := ⟨_, rfl⟩
    obtain ⟨w1, hw1⟩ : ∃ w1, w1 = w.drew := ⟨_, rfl⟩
    have HPre := Lib.hid (show Pre s1 rest1 x.data.toList (d ++ x.data.toList) by rw [hs1, hr1]; exact Pre.whole (by have := HH.out; have := HN.out; omega) HRL.out)
    have HB1 := Lib.hid (show w1.heap[hb]? = some (.cells (HC s1 rest1 n) 374 (0, 0)) by rw [hw1, hs1, hr1, HN.out]; exact HBK.out)
    have HT1 := Lib.hid (show Turn (fun b => b = hb) w w1 by rw [hw1]; exact (Turn.refl _ _).drew)
    have HW := Lib.hid hw1
    clear hs1 hr1 hw1
    have CA := Lib.hid (cutArr_all hb)
    refine wp_region_ord (fun _ => True) [(0, false), (1, false), (2, false), (3, false), (4, false), (5, false), (6, false), (7, false), (8, false), (9, true), (10, true)] (by kernel_rfl) (by kernel_rfl) (fun _ _ d _ _ h => by cases d <;> exact h) trivial ?_
    rw [← HW.out]
    iterate 9
      refine heldL ?_ ?_ (by rfl) (by rfl) (fun w' s1 => ?_) ?_ ?_
      rotate_left 2
      focus (have CA2 := CA.out; go_simp; exact rfl)
      focus (go_simp; exact rfl)
    refine actSL (by rfl) (by rfl) (fun K hK => ?_)
    go_wp2_with fail
    refine (blocks_calls s1 HS1.out x HX1.out hb 0 HGB.out w1 (HG.out.turn HT1.out (fun b h e => HGB.out (e ▸ h))) (HC_st HB1.out) (block_lt HB1.out)).mono ?_
    rintro r w2 ⟨rfl, b1, b2, b3, b4⟩
    have HB2 := Lib.hid (HC_turned HPre.out.len HB1.out b1 b4 (fun off h => b2 ⟨hb, off, none⟩ (block_lt HB1.out) (fun hc => by have := hc.2.2; simp at this; omega)))
    have HT2 := Lib.hid (HT1.out.trans b3)
    clear b1 b2 b3 b4
    obtain ⟨y, hy⟩ : ∃ y, y = mk (x.data.toList.drop (64 * (x.size / 64))) := ⟨_, rfl⟩
    have HY := Lib.hid (show y.data.toList = tailOf x.data.toList ∧ y.size = x.data.toList.length % 64 by
      have e : x.data.toList.length = x.size := by simp
      have e2 : y.data.toList = tailOf x.data.toList := by rw [hy, mk_list]; unfold tailOf; rw [e]
      refine ⟨e2, ?_⟩
      have := congrArg List.length e2
      rw [tailOf_length] at this
      simpa using this)
    rw [← hy]
    clear hy
    obtain ⟨m, hm⟩ : ∃ m, m = y.size := ⟨_, rfl⟩
    obtain ⟨w3, hrun, hblk3, ht3⟩ := copy_rest (takes s1 x.data.toList (x.size / 64)) rest1 n hb 0 m y w2 HPre.out.len (by decide) (by rw [hm]; have := HY.out.2; exact (Nat.min_eq_left (by omega)).symm) HB2.out
    refine hK _ _ trivial ?_
    clear hK
    have hlen : (rest1.take 0 ++ y.data.toList.take m ++ rest1.drop (0 + m)).length = 64 := by
      have h1 := HPre.out.len
      have h2 := HY.out.2
      have e : y.data.toList.length = y.size := by simp
      rw [List.length_append, List.length_append, List.length_take, List.length_take, List.length_drop]
      omega
    have HL := Lib.hid hlen
    have c72 := HC_long hlen hblk3
    have f72 : w3.frozen? ⟨hb, 72, none⟩ = false := frozen_of_block hblk3
    have HB3 := Lib.hid hblk3
    have HM := Lib.hid hm
    have HT3 := Lib.hid (HT2.out.trans ht3)
    clear hblk3 ht3 hm hlen
    refine actL (by kernel_rfl) (by rfl) (by rfl) (fun K hK => ?_)
    go_wp2_with fail
    refine nilL ?_
    clear hrun
    obtain ⟨k, hk⟩ : ∃ k, k = n + x.size := ⟨_, rfl⟩
    have hsum : (n : Int) + (x.size : Int) = (k : Int) := by omega
    have hsum2 : k ≤ 9223372036854775807 := by have := HD.out; have := HN.out; unfold maxLen at *; omega
    have HK := Lib.hid hk
    clear hk
    go_wp2
    have hfin : HC (takes s1 x.data.toList (x.size / 64)) (rest1.take 0 ++ y.data.toList.take m ++ rest1.drop (0 + m)) k = HC (stOf (d ++ x.data.toList)) (tailOf x.data.toList ++ rest1.drop (x.data.toList.length % 64)) (d ++ x.data.toList).length := by
      have e : x.data.toList.length = x.size := by simp
      have e1 : y.data.toList.length = y.size := by simp
      have e2 : k = (d ++ x.data.toList).length := by
        have e : x.data.toList.length = x.size := by simp
        rw [HK.out, HN.out, List.length_append, e]
      have e3 := HPre.out.st
      rw [e] at e3
      rw [e3, ← e2, List.take_zero, List.nil_append, Nat.zero_add, List.take_of_length_le (by rw [e1, HM.out]; exact Nat.le_refl _), HY.out.1, HM.out, HY.out.2]
    have hblk4 := block_setCell (off := 72) HB3.out (.int .i64 (k : Int))
    rw [HC_set HL.out, hfin] at hblk4
    go_ret
    refine ⟨rfl, ⟨_, hblk4, ?_, HPre.out.tail⟩, HT3.out.setCell (p := ⟨hb, 72, none⟩) (.inl rfl) _⟩
    have h1 := HPre.out.len
    rw [List.length_append, List.length_drop, tailOf_length]
    omega
  · have CL := Lib.hid (cutArr_l hb h h64)
    have k0 : decide (0 < (h : Int)) = true := decide_eq_true (by omega)
    have ne64 : ¬ (64 : Nat) = h := by omega
    have CL2 := CL.out
    obtain ⟨m0, hm0⟩ : ∃ m0, m0 = Nat.min x.size (64 - h) := ⟨_, rfl⟩
    obtain ⟨wc, hrunc, hblkc, htc⟩ := copy_rest (stOf d) rest n hb h m0 x w HRL.out (by omega) hm0 (by rw [HN.out]; exact HBK.out)
    have HM0 := Lib.hid hm0
    have HBC := Lib.hid hblkc
    have HTC := Lib.hid htc
    have hm0x : m0 ≤ x.size := by rw [hm0]; exact Nat.min_le_left _ _
    have hm064 : m0 ≤ 64 - h := by rw [hm0]; exact Nat.min_le_right _ _
    clear hm0 hblkc htc
    by_cases hf : h + m0 = 64
    · have kf : decide ((h : Int) + (m0 : Int) = 64) = true := decide_eq_true (by omega)
      have hfi : (h : Int) + (m0 : Int) = 64 := by omega
      obtain ⟨R1, hR1⟩ : ∃ R, R = rest.take h ++ x.data.toList.take m0 ++ rest.drop (h + m0) := ⟨_, rfl⟩
      have HR1 := Lib.hid (show R1 = rest.take (d.length % 64) ++ x.data.toList.take (64 - d.length % 64) ∧ R1.length = 64 by
        have h1 := HRL.out
        have e : x.data.toList.length = x.size := by simp
        have e1 : d.length % 64 = h := by have := HH.out; have := HN.out; omega
        refine ⟨by rw [hR1, e1, List.drop_of_length_le (by omega), List.append_nil, show m0 = 64 - h by omega], ?_⟩
        rw [hR1, List.length_append, List.length_append, List.length_take, List.length_take, List.length_drop]
        omega)
      rw [← hR1] at HBC
      clear hR1
      have CA := Lib.hid (cutArr_all hb)
      obtain ⟨x1, hx1⟩ : ∃ x1, x1 = x.extract m0 x.size := ⟨_, rfl⟩
      have HX1E := Lib.hid (show x1.data.toList = x.data.toList.drop (64 - d.length % 64) by
        have e1 : d.length % 64 = h := by have := HH.out; have := HN.out; omega
        rw [hx1, extract_list, List.take_of_length_le (by simp), e1, show m0 = 64 - h by omega])
      have HX1 := Lib.hid (show x1.size ≤ maxLen by rw [hx1, ByteArray.size_extract]; have := HD.out; omega)
      have HBD := Lib.hid (show wc.drew.heap[hb]? = some (.cells (HC (stOf d) R1 n) 374 (0, 0)) from HBC.out)
      go_wp2
      refine wp_region_ord (fun w' => w'.heap[hb]? = some (.cells (HC (stOf d) R1 n) 374 (0, 0))) [(0, false), (1, false), (2, false), (3, false), (4, false), (5, false), (6, false), (7, false), (8, true)] (by kernel_rfl) (by kernel_rfl) (fun _ _ d _ _ h => by cases d <;> exact h) HBC.out ?_
      iterate 8
        refine heldL ?_ ?_ (by rfl) (by rfl) (fun w' s1 => ?_) ?_ ?_
        rotate_left 2
        focus (have CA2 := CA.out; have CV := conv_rest HR1.out.2 s1; clear s1; go_simp; exact rfl)
        focus (go_simp; exact rfl)
      refine actL (by kernel_rfl) (by rfl) (by rfl) (fun K hK => ?_)
      go_wp2_with fail
      refine (take_calls (stOf d) (stOf_ok d) (mk R1) (by rw [mk_size]; exact HR1.out.2) hb 0 wc.drew (HG.out.turn HTC.out.drew (fun b h e => HGB.out (e ▸ h))) (HC_st HBD.out) (block_lt HBD.out)).mono ?_
      rintro r w2 ⟨rfl, b1, b2, b3, b4⟩
      rw [mk_list] at b1
      have HB2 := Lib.hid (HC_turned HR1.out.2 HBD.out b1 b4 (fun off h => b2 ⟨hb, off, none⟩ (block_lt HBD.out) (fun hc => by have := hc.2.2; simp at this; omega)))
      have HT2 := Lib.hid (HTC.out.drew.trans b3)
      clear b1 b2 b3 b4
      refine hK _ _ ?_
      refine nilL ?_
      clear hK
      obtain ⟨w1, hw1⟩ : ∃ w1, w1 = w2.drew := ⟨_, rfl⟩
      obtain ⟨s1, hs1⟩ : ∃ s1, s1 = (stOf d).take R1 := ⟨_, rfl⟩
      have HS1 := Lib.hid (show s1.Ok by rw [hs1]; exact St.Ok.take _ _)
      obtain ⟨rest1, hr1⟩ : ∃ r, r = R1 := ⟨_, rfl⟩
      have HPre := Lib.hid (show Pre s1 rest1 x1.data.toList (d ++ x.data.toList) by
        have e : x.data.toList.length = x.size := by simp
        have e1 : d.length % 64 = h := by have := HH.out; have := HN.out; omega
        have := Pre.full (d := d) (x := x.data.toList) HRL.out HRT.out (by omega)
        rw [hr1, hs1, HX1E.out, HR1.out.1]
        exact this)
      have HB1 := Lib.hid (show w1.heap[hb]? = some (.cells (HC s1 rest1 n) 374 (0, 0)) by rw [hw1, hs1, hr1]; exact HB2.out)
      have HT1 := Lib.hid (show Turn (fun b => b = hb) w w1 by rw [hw1]; exact HT2.out.drew)
      have HW := Lib.hid hw1
      have HXE := Lib.hid hx1
      clear hr1 hs1 hw1 hx1 CL CL2 hrunc
      go_wp2
      rw [← HXE.out]
      have CA := Lib.hid (cutArr_all hb)
      refine wp_region_ord (fun _ => True) [(0, false), (1, false), (2, false), (3, false), (4, false), (5, false), (6, false), (7, false), (8, false), (9, true), (10, true)] (by kernel_rfl) (by kernel_rfl) (fun _ _ d _ _ h => by cases d <;> exact h) trivial ?_
      rw [← HW.out]
      iterate 9
        refine heldL ?_ ?_ (by rfl) (by rfl) (fun w' s1 => ?_) ?_ ?_
        rotate_left 2
        focus (have CA2 := CA.out; go_simp; exact rfl)
        focus (go_simp; exact rfl)
      refine actSL (by rfl) (by rfl) (fun K hK => ?_)
      go_wp2_with fail
      refine (blocks_calls s1 HS1.out x1 HX1.out hb 0 HGB.out w1 (HG.out.turn HT1.out (fun b h e => HGB.out (e ▸ h))) (HC_st HB1.out) (block_lt HB1.out)).mono ?_
      rintro r w2 ⟨rfl, b1, b2, b3, b4⟩
      have HB2 := Lib.hid (HC_turned HPre.out.len HB1.out b1 b4 (fun off h => b2 ⟨hb, off, none⟩ (block_lt HB1.out) (fun hc => by have := hc.2.2; simp at this; omega)))
      have HT2 := Lib.hid (HT1.out.trans b3)
      clear b1 b2 b3 b4
      obtain ⟨y, hy⟩ : ∃ y, y = mk (x1.data.toList.drop (64 * (x1.size / 64))) := ⟨_, rfl⟩
      have HY := Lib.hid (show y.data.toList = tailOf x1.data.toList ∧ y.size = x1.data.toList.length % 64 by
        have e : x1.data.toList.length = x1.size := by simp
        have e2 : y.data.toList = tailOf x1.data.toList := by rw [hy, mk_list]; unfold tailOf; rw [e]
        refine ⟨e2, ?_⟩
        have := congrArg List.length e2
        rw [tailOf_length] at this
        simpa using this)
      rw [← hy]
      clear hy
      obtain ⟨m, hm⟩ : ∃ m, m = y.size := ⟨_, rfl⟩
      obtain ⟨w3, hrun, hblk3, ht3⟩ := copy_rest (takes s1 x1.data.toList (x1.size / 64)) rest1 n hb 0 m y w2 HPre.out.len (by decide) (by rw [hm]; have := HY.out.2; exact (Nat.min_eq_left (by omega)).symm) HB2.out
      refine hK _ _ trivial ?_
      clear hK
      have hlen : (rest1.take 0 ++ y.data.toList.take m ++ rest1.drop (0 + m)).length = 64 := by
        have h1 := HPre.out.len
        have h2 := HY.out.2
        have e : y.data.toList.length = y.size := by simp
        rw [List.length_append, List.length_append, List.length_take, List.length_take, List.length_drop]
        omega
      have HL := Lib.hid hlen
      have c72 := HC_long hlen hblk3
      have f72 : w3.frozen? ⟨hb, 72, none⟩ = false := frozen_of_block hblk3
      have HB3 := Lib.hid hblk3
      have HM := Lib.hid hm
      have HT3 := Lib.hid (HT2.out.trans ht3)
      clear hblk3 ht3 hm hlen
      refine actL (by kernel_rfl) (by rfl) (by rfl) (fun K hK => ?_)
      go_wp2_with fail
      refine nilL ?_
      clear hrun
      obtain ⟨k, hk⟩ : ∃ k, k = n + x.size := ⟨_, rfl⟩
      have hsum : (n : Int) + (x.size : Int) = (k : Int) := by omega
      have hsum2 : k ≤ 9223372036854775807 := by have := HD.out; have := HN.out; unfold maxLen at *; omega
      have HK := Lib.hid hk
      clear hk
      go_wp2
      have hfin : HC (takes s1 x1.data.toList (x1.size / 64)) (rest1.take 0 ++ y.data.toList.take m ++ rest1.drop (0 + m)) k = HC (stOf (d ++ x.data.toList)) (tailOf x1.data.toList ++ rest1.drop (x1.data.toList.length % 64)) (d ++ x.data.toList).length := by
        have e : x1.data.toList.length = x1.size := by simp
        have e1 : y.data.toList.length = y.size := by simp
        have e2 : k = (d ++ x.data.toList).length := by
          have e : x.data.toList.length = x.size := by simp
          rw [HK.out, HN.out, List.length_append, e]
        have e3 := HPre.out.st
        rw [e] at e3
        rw [e3, ← e2, List.take_zero, List.nil_append, Nat.zero_add, List.take_of_length_le (by rw [e1, HM.out]; exact Nat.le_refl _), HY.out.1, HM.out, HY.out.2]
      have hblk4 := block_setCell (off := 72) HB3.out (.int .i64 (k : Int))
      rw [HC_set HL.out, hfin] at hblk4
      go_ret
      refine ⟨rfl, ⟨_, hblk4, ?_, HPre.out.tail⟩, HT3.out.setCell (p := ⟨hb, 72, none⟩) (.inl rfl) _⟩
      have h1 := HPre.out.len
      rw [List.length_append, List.length_drop, tailOf_length]
      omega
    · have kf : decide ((h : Int) + (m0 : Int) = 64) = false := decide_eq_false (by omega)
      have hmx : m0 = x.size := by
        have h1 := HM0.out
        rcases Nat.le_total x.size (64 - h) with h2 | h2
        · rw [h1]; exact Nat.min_eq_left h2
        · have : m0 = 64 - h := by rw [h1]; exact Nat.min_eq_right h2
          omega
      have HMX := Lib.hid hmx
      clear hmx
      obtain ⟨x1, hx1⟩ : ∃ x1, x1 = x.extract m0 x.size := ⟨_, rfl⟩
      have HX1E := Lib.hid (show x1.data.toList = [] by
        rw [hx1, extract_list, HMX.out, Nat.sub_self, List.take_zero])
      have HX1 := Lib.hid (show x1.size ≤ maxLen by rw [hx1, ByteArray.size_extract]; have := HD.out; omega)
      obtain ⟨rest1, hr1⟩ : ∃ R, R = rest.take h ++ x.data.toList.take m0 ++ rest.drop (h + m0) := ⟨_, rfl⟩
      obtain ⟨s1, hs1⟩ : ∃ s1, s1 = stOf d := ⟨_, rfl⟩
      have HS1 := Lib.hid (show s1.Ok by rw [hs1]; exact stOf_ok d)
      have HPre := Lib.hid (show Pre s1 rest1 x1.data.toList (d ++ x.data.toList) by
        have e1 : d.length % 64 = h := by have := HH.out; have := HN.out; omega
        have e2 : x.data.toList.length = m0 := by rw [HMX.out]; simp
        have := Pre.short (d := d) (x := x.data.toList) HRL.out HRT.out (by omega)
        rw [e1, e2] at this
        rw [HX1E.out, hr1, hs1, List.take_of_length_le (l := x.data.toList) (by omega)]
        exact this)
      rw [← hr1, ← hs1] at HBC
      obtain ⟨w1, hw1⟩ : ∃ w1, w1 = wc.drew := ⟨_, rfl⟩
      have HB1 := Lib.hid (show w1.heap[hb]? = some (.cells (HC s1 rest1 n) 374 (0, 0)) by rw [hw1]; exact HBC.out)
      have HT1 := Lib.hid (show Turn (fun b => b = hb) w w1 by rw [hw1]; exact HTC.out.drew)
      have HW := Lib.hid hw1
      have HXE := Lib.hid hx1
      clear hr1 hs1 hw1 hx1
      go_wp2
      rw [← HXE.out]
      have CA := Lib.hid (cutArr_all hb)
      refine wp_region_ord (fun _ => True) [(0, false), (1, false), (2, false), (3, false), (4, false), (5, false), (6, false), (7, false), (8, false), (9, true), (10, true)] (by kernel_rfl) (by kernel_rfl) (fun _ _ d _ _ h => by cases d <;> exact h) trivial ?_
      rw [← HW.out]
      iterate 9
        refine heldL ?_ ?_ (by rfl) (by rfl) (fun w' s1 => ?_) ?_ ?_
        rotate_left 2
        focus (have CA2 := CA.out; go_simp; exact rfl)
        focus (go_simp; exact rfl)
      refine actSL (by rfl) (by rfl) (fun K hK => ?_)
      go_wp2_with fail
      refine (blocks_calls s1 HS1.out x1 HX1.out hb 0 HGB.out w1 (HG.out.turn HT1.out (fun b h e => HGB.out (e ▸ h))) (HC_st HB1.out) (block_lt HB1.out)).mono ?_
      rintro r w2 ⟨rfl, b1, b2, b3, b4⟩
      have HB2 := Lib.hid (HC_turned HPre.out.len HB1.out b1 b4 (fun off h => b2 ⟨hb, off, none⟩ (block_lt HB1.out) (fun hc => by have := hc.2.2; simp at this; omega)))
      have HT2 := Lib.hid (HT1.out.trans b3)
      clear b1 b2 b3 b4
      obtain ⟨y, hy⟩ : ∃ y, y = mk (x1.data.toList.drop (64 * (x1.size / 64))) := ⟨_, rfl⟩
      have HY := Lib.hid (show y.data.toList = tailOf x1.data.toList ∧ y.size = x1.data.toList.length % 64 by
        have e : x1.data.toList.length = x1.size := by simp
        have e2 : y.data.toList = tailOf x1.data.toList := by rw [hy, mk_list]; unfold tailOf; rw [e]
        refine ⟨e2, ?_⟩
        have := congrArg List.length e2
        rw [tailOf_length] at this
        simpa using this)
      rw [← hy]
      clear hy
      obtain ⟨m, hm⟩ : ∃ m, m = y.size := ⟨_, rfl⟩
      obtain ⟨w3, hrun, hblk3, ht3⟩ := copy_rest (takes s1 x1.data.toList (x1.size / 64)) rest1 n hb 0 m y w2 HPre.out.len (by decide) (by rw [hm]; have := HY.out.2; exact (Nat.min_eq_left (by omega)).symm) HB2.out
      refine hK _ _ trivial ?_
      clear hK
      have hlen : (rest1.take 0 ++ y.data.toList.take m ++ rest1.drop (0 + m)).length = 64 := by
        have h1 := HPre.out.len
        have h2 := HY.out.2
        have e : y.data.toList.length = y.size := by simp
        rw [List.length_append, List.length_append, List.length_take, List.length_take, List.length_drop]
        omega
      have HL := Lib.hid hlen
      have c72 := HC_long hlen hblk3
      have f72 : w3.frozen? ⟨hb, 72, none⟩ = false := frozen_of_block hblk3
      have HB3 := Lib.hid hblk3
      have HM := Lib.hid hm
      have HT3 := Lib.hid (HT2.out.trans ht3)
      clear hblk3 ht3 hm hlen
      refine actL (by kernel_rfl) (by rfl) (by rfl) (fun K hK => ?_)
      go_wp2_with fail
      refine nilL ?_
      clear hrun
      obtain ⟨k, hk⟩ : ∃ k, k = n + x.size := ⟨_, rfl⟩
      have hsum : (n : Int) + (x.size : Int) = (k : Int) := by omega
      have hsum2 : k ≤ 9223372036854775807 := by have := HD.out; have := HN.out; unfold maxLen at *; omega
      have HK := Lib.hid hk
      clear hk
      go_wp2
      have hfin : HC (takes s1 x1.data.toList (x1.size / 64)) (rest1.take 0 ++ y.data.toList.take m ++ rest1.drop (0 + m)) k = HC (stOf (d ++ x.data.toList)) (tailOf x1.data.toList ++ rest1.drop (x1.data.toList.length % 64)) (d ++ x.data.toList).length := by
        have e : x1.data.toList.length = x1.size := by simp
        have e1 : y.data.toList.length = y.size := by simp
        have e2 : k = (d ++ x.data.toList).length := by
          have e : x.data.toList.length = x.size := by simp
          rw [HK.out, HN.out, List.length_append, e]
        have e3 := HPre.out.st
        rw [e] at e3
        rw [e3, ← e2, List.take_zero, List.nil_append, Nat.zero_add, List.take_of_length_le (by rw [e1, HM.out]; exact Nat.le_refl _), HY.out.1, HM.out, HY.out.2]
      have hblk4 := block_setCell (off := 72) HB3.out (.int .i64 (k : Int))
      rw [HC_set HL.out, hfin] at hblk4
      go_ret
      refine ⟨rfl, ⟨_, hblk4, ?_, HPre.out.tail⟩, HT3.out.setCell (p := ⟨hb, 72, none⟩) (.inl rfl) _⟩
      have h1 := HPre.out.len
      rw [List.length_append, List.length_drop, tailOf_length]
      omega
end Go.Proofs.YtblkehdpenfhjaaGreatDoor
/-
  Package sha: Copy, padding, text, Sum, New.
-/
set_option linter.unusedVariables false
set_option linter.unusedSimpArgs false
namespace Go.Proofs.YtblkehdpenfhjaaGreatDoor
open Go.RowKit

def ZH : Array Value := HC ⟨0, 0, 0, 0, 0, 0, 0, 0⟩ (List.replicate 64 0) 0
theorem zeroHash (w : World) : (zeroValue 374).run Tryz.prog w = .ok (.agg ZH) w := by kernel_rfl
theorem HC_one {s : St} {rest : List UInt8} {n : Nat} : (HC s rest n).all (·.oneCell') = true := by
  rw [Array.all_eq_true_iff_forall_mem]
  intro v hv
  have hv : v ∈ s.cells.toList ++ (rest.map bv ++ [Value.int .i64 (n : Int)]) := by simpa [HC] using hv
  rcases List.mem_append.1 hv with h | h
  · have h : v ∈ [uv s.a, uv s.b, uv s.c, uv s.d, uv s.e, uv s.f, uv s.g, uv s.h] := h
    simp only [List.mem_cons, List.not_mem_nil, or_false] at h
    rcases h with h | h | h | h | h | h | h | h <;> (subst h; rfl)
  · rcases List.mem_append.1 h with h | h
    · obtain ⟨c, _, rfl⟩ := List.mem_map.1 h
      rfl
    · rw [List.mem_singleton.1 h]; rfl
set_option maxRecDepth 100000 in
theorem copy_calls (d : List UInt8) (hb : Nat) (w : World) (hH : HashIs w hb d) :
    Calls Tryz.prog 369 #[.pointer (some ⟨hb, 0, none⟩)] w fun r w' => ∃ b, r = .returned (.pointer (some ⟨b, 0, none⟩)) ∧ w.heap.size ≤ b ∧ b < w'.heap.size ∧ HashIs w' b d ∧ Below w.heap.size w w' := by
  obtain ⟨rest, hblk, hrl, hrt⟩ := hH
  have hz := zeroHash
  have hblk1 := heap_alloc_keep hblk (.cells ZH 374)
  have hnew := (MapKept.heap_alloc w (.cells ZH 374)).1
  have hsz : (Tryz.prog.info? 374).map (·.size) = some (HC (stOf d) rest d.length).size := by rw [HC_size hrl]; kernel_rfl
  have hsz2 : ZH.size = (HC (stOf d) rest d.length).size := by rw [HC_size hrl]; rfl
  have hfin := setRow_heap (w.alloc (.cells ZH 374)) w.heap.size ZH (HC (stOf d) rest d.length) 374 _ hnew
  have hbb := below_setRow ((Below.refl w.heap.size w).alloc (Nat.le_refl _) (.cells ZH 374)) (Nat.le_refl _) (HC (stOf d) rest d.length)
  have H1 := Lib.hid hblk
  have H2 := Lib.hid hnew
  have H3 := Lib.hid hsz
  have H4 := Lib.hid hsz2
  have H5 := Lib.hid hfin
  have H6 := Lib.hid hbb
  have H7 := Lib.hid hrl
  have H8 := Lib.hid hrt
  clear hblk hblk1 hnew hsz hsz2 hfin hbb hrl hrt
  go_enter Tryz.func369, Tryz.ntmps369
  go_wp2_with (first | (refine wpList_load_row rfl 374 _ rfl _ rfl 374 _ _ _ H1.out Tryz.underlying374 rfl H3.out ?_) | (refine wpList_store_row rfl 374 _ _ rfl _ _ rfl rfl 374 _ H2.out H3.out H4.out HC_one ?_))
  go_ret
  exact ⟨w.heap.size, rfl, Nat.le_refl _, block_lt H5.out, ⟨rest, H5.out, H7.out, H8.out⟩, H6.out⟩
def padK (n : Nat) : Nat := (119 - n % 64) % 64
def padL (n : Nat) : List UInt8 := (128 :: List.replicate (padK n) 0) ++ beL 8 (8 * n)
theorem row_lit (w : World) (c : UInt8) : Row 5 (w.alloc (.cells #[bv c] 5)) (.slice (some ⟨w.heap.size, 0, none⟩) 1 1) [bv c] (w.heap.size ≤ ·) :=
  .inr ⟨w.heap.size, 1, #[bv c], rfl, Nat.le_refl _, (MapKept.heap_alloc w _).1, Nat.le_refl _, by unfold maxLen; decide, rfl, rfl⟩
set_option maxHeartbeats 4000000 in
set_option maxRecDepth 100000 in
theorem padding_calls (n : Nat) (hn : n ≤ 1152921504606846976) (w : World) :
    Calls Tryz.prog 370 #[.int .i64 n] w fun r w' => r = .returned (.string (mk (padL n))) ∧ Below w.heap.size w w' := by
  obtain ⟨i8, hi8, hz0, hz1, hz2⟩ := info_parts infoU8
  have HR0 := Lib.hid (row_lit w 128)
  have HT0 := Lib.hid ((Turn.refl (fun b => w.heap.size ≤ b) w).alloc (.cells #[bv 128] 5))
  go_enter Tryz.func370, Tryz.ntmps370
  go_wp2
  go_loopw [3] (fun lv wr => ∃ k : Nat, k ≤ padK n ∧ Hid (Row 5 wr lv ((128 :: List.replicate k (0 : UInt8)).map bv) (w.heap.size ≤ ·)) ∧ Hid (Turn (fun b => w.heap.size ≤ b) w wr)) (fun lv _ => match lv with | .slice _ n _ => 70 - n | _ => 0)
  case atStart => exact ⟨0, Nat.zero_le _, HR0, HT0⟩
  case round =>
    clear HR0 HT0
    obtain ⟨k, hk, HR, HT⟩ := hrel
    have hpk : padK n < 64 := Nat.mod_lt _ (by decide)
    have hpe : padK n = (119 - n % 64) % 64 := rfl
    obtain ⟨p, hp⟩ : ∃ p, p = padK n := ⟨_, rfl⟩
    rw [← hp] at hk hpk hpe
    obtain ⟨X, hX⟩ : ∃ X, X = (128 :: List.replicate k (0 : UInt8)).map bv := ⟨_, rfl⟩
    have HLX := Lib.hid (show X.length = k + 1 by rw [hX]; simp)
    rw [← hX] at HR
    obtain ⟨A, cap, rfl, hcap, _⟩ := HR.out.slin
    rw [HLX.out] at HR hcap ⊢
    have HX := Lib.hid hX
    have HP := Lib.hid hp
    clear hcap hX hp
    have HPE := Lib.hid hpe
    clear hpe
    by_cases hlt : k = p
    · have hmod : ((n : Int) + ((k : Int) + 1)) % 64 = 56 := by have := HPE.out; omega
      have HKP := Lib.hid hlt
      have k8 : (8 : Int) * (n : Int) = ((8 * n : Nat) : Int) := by omega
      obtain ⟨n8, hn8⟩ : ∃ n8, n8 = 8 * n := ⟨_, rfl⟩
      rw [← hn8] at k8
      have n8lt : n8 < 18446744073709551616 := by omega
      have HN8 := Lib.hid hn8
      have HRE := Lib.hid (show Row 5 wr (.slice A (k + 1) cap) ((128 :: List.replicate (padK n) (0 : UInt8)).map bv) (w.heap.size ≤ ·) by have := HR.out; rw [HX.out, hlt, HP.out] at this; rw [hlt, HP.out]; exact this)
      clear hlt hn8
      go_wp2_with fail
      refine (put8_calls n8 n8lt _ (by simp; have := HP.out; omega) _ _ wr HRE.out).mono ?_
      rintro r w2 ⟨v2, rfl, hr2, ht2⟩
      have HC := row_string hr2
      have HT2 := Lib.hid (HT.out.trans' ht2 (fun i hi => .inl hi))
      clear hr2 ht2
      go_wp2
      go_ret
      refine ⟨?_, HT2.out.below (fun k hk => hk) (Nat.le_refl _)⟩
      unfold padL
      rw [← HN8.out]
      rfl
    · have hmod2 : ¬ ((n : Int) + ((k : Int) + 1)) % 64 = 56 := by have := HPE.out; omega
      have hmod : decide (((n : Int) + ((k : Int) + 1)) % 64 = 56) = false := decide_eq_false hmod2
      go_wp2_with (at_builtin; go_must (refine wpList_append_row (F := fun b => w.heap.size ≤ b) (news := [bv 0]) rfl (.tmp 11) (.tmp 12) rfl i8 (.int .u8 0) 1 Tryz.underlying108 hi8 hz0 hz1 hz2 rfl rfl (HR.out.keep fun b hb _ => Below.heap_alloc _ _ b hb) ⟨wr.heap.size, 0, none⟩ 1 1 rfl rfl (World.news_of_block (MapKept.heap_alloc _ _).1) (by intro u hu; simp at hu; subst hu; rfl) (by decide) (by have := HLX.out; unfold maxLen; omega) (by have := HLX.out; omega) ?_))
      intro v2 w3 hrow2 htu2 hcell2
      have HR2 := Lib.hid (show Row 5 w3 v2 ((128 :: List.replicate (k + 1) (0 : UInt8)).map bv) (w.heap.size ≤ ·) from by
        have e : X ++ [bv 0] = (128 :: List.replicate (k + 1) (0 : UInt8)).map bv := by rw [HX.out, List.replicate_succ']; simp
        rw [← e]
        exact hrow2.mono fun b _ h => h.elim id (fun h => by have := HT.out.size; (try simp at h); omega))
      have HT2 := Lib.hid (HT.out.trans' (Turn.trans (((Turn.refl (fun b => w.heap.size ≤ b) wr).alloc _)) htu2) (fun i hi => .inl hi))
      clear hrow2 htu2 hcell2
      obtain ⟨A2, cap2, rfl, _, _⟩ := HR2.out.slin
      have hl2 : ((128 :: List.replicate (k + 1) (0 : UInt8)).map bv).length = k + 2 := by simp
      rw [hl2] at HR2 ⊢
      clear hl2
      go_wp2
      exact ⟨⟨k + 1, by have := HP.out; omega, HR2, HT2⟩, by show 70 - (k + 2) < 70 - (k + 1); omega⟩
/-- the state's text -/
def textN (s : St) : Nat → List UInt8
  | 0 => []
  | i + 1 => textN s i ++ beL 4 (s.at i)
theorem textN_len (s : St) : ∀ i, (textN s i).length = 4 * i
  | 0 => rfl
  | i + 1 => by rw [textN, List.length_append, textN_len s i, beL_len]; omega
theorem St.Ok.at {s : St} (h : s.Ok) (i : Nat) (hi : i < 8) : s.at i < 4294967296 := by
  match i, hi with
  | 0, _ => exact h.a
  | 1, _ => exact h.b
  | 2, _ => exact h.c
  | 3, _ => exact h.d
  | 4, _ => exact h.e
  | 5, _ => exact h.f
  | 6, _ => exact h.g
  | 7, _ => exact h.h
theorem make_room (w : World) : (Instr.makeSlice 108 (.int .i64 0) (.int .i64 32)).run Tryz.prog w = .ok (.slice (some ⟨w.heap.size, 0, none⟩) 0 32) (w.alloc (.cells (madeCells #[Value.int .u8 0] 32) 5)) := by
  obtain ⟨i, hi, hz0, hz1, hz2⟩ := info_parts infoU8
  have h := run_makeSlice w (P := Tryz.prog) 108 5 i (.int .u8 0) Tryz.underlying108 hi hz0 .i64 .i64 0 32 (by omega) (by omega) (by rw [hz1]; simp) (by rw [hz2]; simp) (by omega)
  rw [h, hz1]
  simp [Value.cells]
theorem row_room (w : World) : Row 5 (w.alloc (.cells (madeCells #[Value.int .u8 0] 32) 5)) (.slice (some ⟨w.heap.size, 0, none⟩) 0 32) (([] : List UInt8).map bv) (w.heap.size ≤ ·) :=
  .inr ⟨w.heap.size, 32, madeCells #[Value.int .u8 0] 32, rfl, Nat.le_refl _, (MapKept.heap_alloc w _).1, Nat.zero_le _, by unfold maxLen; decide, by simp [madeCells], rfl⟩
set_option maxHeartbeats 4000000 in
set_option maxRecDepth 100000 in
theorem text_calls (s : St) (hok : s.Ok) (sb : Nat) (w : World) (hS : StAt w sb 0 s) (hlt : sb < w.heap.size) :
    Calls Tryz.prog 371 #[.pointer (some ⟨sb, 0, none⟩)] w fun r w' => r = .returned (.string (mk (textN s 8))) ∧ Below w.heap.size w w' := by
  have HOK := Lib.hid hok
  have HS := Lib.hid hS
  have HLT := Lib.hid hlt
  have hmk := make_room w
  obtain ⟨w1, hw1⟩ : ∃ w1, w1 = w.alloc (.cells (madeCells #[Value.int .u8 0] 32) 5) := ⟨_, rfl⟩
  have HR0 := Lib.hid (show Row 5 w1 (.slice (some ⟨w.heap.size, 0, none⟩) 0 32) (([] : List UInt8).map bv) (w.heap.size ≤ ·) by rw [hw1]; exact row_room w)
  have HT0 := Lib.hid (show Turn (fun b => w.heap.size ≤ b) w w1 by rw [hw1]; exact (Turn.refl _ _).alloc _)
  rw [← hw1] at hmk
  clear hok hS hlt hw1
  go_enter Tryz.func371, Tryz.ntmps371
  go_wp2
  go_loopw [8, 3] (fun iv lv wr => ∃ i : Nat, iv = .int .i64 i ∧ i ≤ 8 ∧ Hid (Row 5 wr lv ((textN s i).map bv) (w.heap.size ≤ ·)) ∧ Hid (Turn (fun b => w.heap.size ≤ b) w wr)) (fun iv _ _ => 8 - (intOf iv).toNat)
  case atStart => exact ⟨0, rfl, by omega, HR0, HT0⟩
  case round =>
    clear HR0 HT0
    obtain ⟨i, rfl, hi, HR, HT⟩ := hrel
    by_cases hlt : i < 8
    · have c1 : wr.cell? ⟨sb, i, none⟩ = some (.int .u32 ((s.at i : Nat) : Int)) := by
        have h1 := (HS.out i hlt).1
        rw [Nat.zero_add, St.cells_at s i hlt] at h1
        rw [HT.out.cell (p := ⟨sb, i, none⟩) HLT.out (by have := HLT.out; simp; omega)]
        exact h1
      have hx4 := HOK.out.at i hlt
      obtain ⟨x, hx⟩ : ∃ x, x = s.at i := ⟨_, rfl⟩
      have HXE := Lib.hid hx
      rw [← hx] at c1 hx4
      clear hx
      go_wp2_with fail
      refine (put4_calls x hx4 _ (by rw [textN_len]; omega) _ _ wr HR.out).mono ?_
      rintro r w2 ⟨v2, rfl, hr2, ht2⟩
      have HR2 := Lib.hid (show Row 5 w2 v2 ((textN s (i + 1)).map bv) (w.heap.size ≤ ·) by
        rw [HXE.out] at hr2
        exact hr2.mono fun b _ h => h.elim id (fun h => by have := HT.out.size; omega))
      have HT2 := Lib.hid (HT.out.trans' ht2 (fun i hi => .inl hi))
      clear hr2 ht2
      go_wp2
      exact ⟨⟨i + 1, by go_num, by omega, HR2, HT2⟩, by simp [intOf]; omega⟩
    · have hi8 : i = 8 := by omega
      have k8 : decide ((i : Int) < 8) = false := decide_eq_false (by omega)
      have HC := row_string HR.out
      have HI := Lib.hid hi8
      clear hi8 hlt hi
      go_wp2
      go_ret
      exact ⟨by rw [HI.out]; rfl, HT.out.below (fun k hk => hk) (Nat.le_refl _)⟩
end Go.Proofs.YtblkehdpenfhjaaGreatDoor
