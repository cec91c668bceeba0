import Derived.Test.YtblkehdpenfhjaaGreatDoorR4
import Derived.Deep.AppendLies
set_option linter.unnecessarySimpa false
set_option linter.unusedVariables false
set_option linter.unusedSimpArgs false
/-
  Package shard: hash.
-/
set_option linter.unusedVariables false
set_option linter.unusedSimpArgs false
namespace Go.Proofs.YtblkehdpenfhjaaGreatDoor
open Go.RowKit Go.Maps Go.ChangeMaps Go.MapKept

section
variable {w w' : World} {a : EA} {D : ED} {X Y : Nat → Prop} {lv : Value} {rv : Nat → Option Value} {sf : Lit → Option Value} {ns : Nat}
def ED.addNodes (D : ED) (k : Nat) : ED := { D with nodes := D.nodes + k }
theorem SlIn.own1 {w : World} {e base n : Nat} {v : Value} {us : List Value} (h : w.ownsRow base e 1 v n us) : SlIn w v us (fun b => base ≤ b) := SlIn.of_own h
theorem lvl_small (W : Int) (row : List ByteArray) (h : ∀ x ∈ row, x.size ≤ 32) : ∀ k, ∀ x ∈ lvl W row k, x.size ≤ 32
  | 0 => h
  | k + 1 => fun x hx => by
    have : ∀ l : List ByteArray, ∀ x ∈ upRow W l, x.size ≤ 32 := fun l => by
      induction l using upRow.induct with
      | case1 x y r ih => intro z hz; simp only [upRow, List.mem_cons] at hz; rcases hz with rfl | hz; exact nodeH_size _ _ _; exact ih z hz
      | case2 l hl => intro z hz; unfold upRow at hz; split at hz; exact absurd rfl (hl _ _ _); simp at hz
    exact this _ x hx
theorem engC_nodes (a : EA) (D : ED) (lv : Value) (k : Nat) : (engC a D lv).setIfInBounds 15 (.int .i64 (k : Int)) = engC a { D with nodes := k } lv := rfl
theorem own_form {w : World} {e base sz n : Nat} {v : Value} {us : List Value} (h : w.ownsRow base e sz v n us) : ∃ A c, v = .slice A n c ∧ n ≤ c := by
  rcases h.2 with ⟨rfl, h0⟩ | ⟨g, cap, cur, rfl, hB, hg, hn, hm, hs, ht⟩
  · exact ⟨none, 0, by rw [h0], by omega⟩
  · exact ⟨_, cap, rfl, hn⟩
theorem SlIn.here {us : List Value} (h : SlIn w lv us X) : SlIn w lv us (fun b => X b ∧ b < w.heap.size) := h.mono fun b hb hX => ⟨hX, hb⟩
def lenOf : Value → Nat
  | .slice _ n _ => n
  | _ => 0
/-- between two rows -/
structure HInv (w wr : World) (eb : Nat) (a : EA) (D : ED) (lv : Value) (WW : Nat) (row0 : List ByteArray) (k : Nat) (rv tv : Value) : Prop where
  turn : Turn (fun b => b = eb) w wr
  blk : wr.heap[eb]? = some (.cells (engC a (D.addNodes (sumN (fun q => row0.length / 2 ^ (q + 1)) k)) lv) 88 (0, 0))
  ex : ∃ vs G, wr.ownsRow w.heap.size 32 1 tv (k + 1) vs ∧ tv.ownBlock = some G ∧ (∀ q (h : q < vs.length), SlIn wr vs[q] ((lvl WW row0 q).map Value.string) (fun b => w.heap.size ≤ b ∧ b ≠ G)) ∧ vs[k]? = some rv
/-- within a row -/
structure HIn (w1 wr : World) (eb : Nat) (a : EA) (D : ED) (lv : Value) (WW : Nat) (row : List ByteArray) (c m : Nat) (av : Value) : Prop where
  turn : Turn (fun b => b = eb) w1 wr
  blk : wr.heap[eb]? = some (.cells (engC a (D.addNodes (c + m)) lv) 88 (0, 0))
  own : wr.ownsRow w1.heap.size 9 1 av m (((upRow WW row).take m).map Value.string)
theorem HInv.next {w wk wr w4 : World} {eb : Nat} {a : EA} {D : ED} {lv : Value} {WW : Nat} {row0 row : List ByteArray} {k cn m : Nat} {rv tv av : Value} (hI : HInv w wk eb a D lv WW row0 k rv tv) (hlt : eb < w.heap.size)
    (hM : HIn wk wr eb a D lv WW row cn m av) (hrow : row = lvl WW row0 k) (hcn : cn = sumN (fun q => row0.length / 2 ^ (q + 1)) k) (hm : m = row.length / 2) {vs : List Value} {G : Nat}
    (o1 : wk.ownsRow w.heap.size 32 1 tv (k + 1) vs) (o2 : tv.ownBlock = some G) (o3 : ∀ q (h : q < vs.length), SlIn wk vs[q] ((lvl WW row0 q).map Value.string) (fun b => w.heap.size ≤ b ∧ b ≠ G))
    {o : Obj} (hgrow : (wr.alloc o).grownBy w4 tv.ownBlock) {g cap3 : Nat} (hown4 : w4.ownsRow w.heap.size 32 1 (.slice (some ⟨g, 0, none⟩) (k + 1 + 1) cap3) (k + 1 + 1) (vs ++ [av])) (hat : tv.ownBlock = some g ∨ g = wr.heap.size + 1) :
    HInv w w4 eb a D lv WW row0 (k + 1) av (.slice (some ⟨g, 0, none⟩) (k + 1 + 1) cap3) := by
  have hvl : vs.length = k + 1 := by have := o1.1; omega
  have hG : G < wk.heap.size := by obtain ⟨cur, hc⟩ := own_block o1 o2; exact block_lt hc
  have hGw : w.heap.size ≤ G := own_ge o1 o2
  have hs1 := hM.turn.size
  have hsz : (wr.alloc o).heap.size = wr.heap.size + 1 := by simp
  have hs2 := hgrow.size
  have hne : tv.ownBlock ≠ some eb := fun e => by rw [o2] at e; injection e with e; omega
  have hall : ∀ b, b < wr.heap.size → b ≠ G → w4.heap[b]? = wr.heap[b]? := fun b hb hbG =>
    (hgrow.block b (by omega) (fun e => hbG (by rw [o2] at e; injection e))).trans (Below.heap_alloc _ _ _ hb)
  refine ⟨((hI.turn.trans hM.turn).alloc _).grown hgrow (fun b hb => .inr (by rw [o2] at hb; injection hb with hb; omega)), ?_, vs ++ [av], g, hown4, rfl, fun q hq => ?_, ?_⟩
  · rw [hall eb (block_lt hM.blk) (by omega), hM.blk]
    simp only [sumN]
    rw [← hcn, show cn + m = cn + row0.length / 2 ^ (k + 1) by
      rw [hm, hrow, lvl_len, Nat.div_div_eq_div_mul, ← Nat.pow_succ]]
  · by_cases hq2 : q < vs.length
    · rw [List.getElem_append_left hq2]
      refine ((o3 q hq2).here.keep (by omega) fun b hb hX => ?_).mono fun b hb hX => ⟨hX.1.1, ?_⟩
      · exact (hall b (by omega) hX.1.2).trans (hM.turn.block b hb (by have := hX.1.1; omega))
      · rintro rfl
        rcases hat with e | e
        · rw [o2] at e; injection e with e; exact hX.1.2 e.symm
        · have := hX.2; omega
    · have hqe : q = vs.length := by simp at hq; omega
      subst hqe
      rw [List.getElem_append_right (Nat.le_refl _)]
      simp only [Nat.sub_self, List.getElem_singleton]
      have hs := SlIn.of_own hM.own
      rw [List.take_of_length_le (by rw [upRow_len, hm]; exact Nat.le_refl _), hrow, show upRow WW (lvl WW row0 k) = lvl WW row0 vs.length by rw [hvl]; rfl] at hs
      refine (hs.here.keep (by omega) fun b hb hX => hall b hb (by have := hX.1; omega)).mono fun b hb hX => ⟨by have := hX.1; have := hI.turn.size; omega, ?_⟩
      rintro rfl
      rcases hat with e | e
      · rw [o2] at e; injection e with e; have := hX.1; omega
      · have := hX.2; omega
  · rw [List.getElem?_append_right (by omega), hvl]
    simp
def ED.hashed (D : ED) (j : Nat) (g : List (List ByteArray)) (c : Nat) : ED := { D with rows := fun q => if q = j then some g else D.rows q, nodes := D.nodes + c }
/-- the rows over these leaves -/
def RowsOk (W : Nat) (xs : List ByteArray) (g : List (List ByteArray)) : Prop := ∃ k, g = (List.range (k + 1)).map (lvl W (xs.map (leafH W))) ∧ xs.length / 2 ^ k ≤ 1 ∧ k ≤ 10
theorem mapTurned_turn {w w' : World} {b : Nat} (h : w.mapTurned w' b) : Turn (fun i => i = b) w w' := (Turn.refl _ w).map h (.inl rfl)
theorem EngIn.hashed {xs : List ByteArray} {wr w6 : World} {WW : Nat} {row0 : List ByteArray} {k : Nat} {rv' tv : Value} {eb : Nat} (h : EngIn w a D X lv rv sf ns) (j : Nat) (heb : eb = a.eb) (hI : HInv w wr eb a D lv WW row0 k rv' tv) (hW : WW = D.W) (hrow : row0 = xs.map (leafH WW))
    (hX : ∀ b, w.heap.size ≤ b → X b) (hIM : IntMap Tryz.prog 3 w6 a.rb (upd rv j (some tv))) (hMT : wr.mapTurned w6 a.rb) (hk : row0.length / 2 ^ k ≤ 1) (hkb : k ≤ 10) (hno : D.nodes + costOf row0.length ≤ 1152921504606846976) :
    ∃ g rv2, RowsOk D.W xs g ∧ EngIn w6 a (D.hashed j g (costOf xs.length)) X lv rv2 sf ns ∧ Turn a.own w w6 := by
  subst heb
  have hl : row0.length = xs.length := by rw [hrow, List.length_map]
  have ht6 := mapTurned_turn hMT
  have hT : Turn a.own w w6 := (hI.turn.mono fun i hi => .inl (.inl hi)).trans (ht6.mono fun i hi => .inl (.inr (.inl hi)))
  have hold : ∀ b, b < w.heap.size → b ≠ a.eb → b ≠ a.rb → w6.heap[b]? = w.heap[b]? := fun b hb h1 h2 => (ht6.block b (Nat.lt_of_lt_of_le hb hI.turn.size) h2).trans (hI.turn.block b hb h1)
  refine ⟨(List.range (k + 1)).map (lvl WW row0), upd rv j (some tv), ⟨k, by rw [hrow, hW], by rw [← hl]; exact hk, hkb⟩, ?_, hT⟩
  refine ⟨?_, hIM, h.dirtyM.keep (hold _ h.dirtyM.lt (fun e => h.ne2 e.symm) h.ap1.symm), h.unwrM.keep (hold _ h.unwrM.lt (fun e => h.ne3 e.symm) h.ap2.symm), h.spineM.keep (hold _ h.spineM.lt (fun e => h.ne4 e.symm) h.ap3.symm),
    h.list.keep hT.size fun b hb hX' => hT.block b hb (h.apX b hX'), fun q => ?_, h.spv, Nat.le_trans h.nsle (by show D.nodes + 1 ≤ D.nodes + _ + 1; omega), h.ap1, h.ap2, h.ap3, h.ap4, h.ap5, h.ap6, h.apX,
    ⟨h.ok.W1, h.ok.W2, h.ok.B, h.ok.space, h.ok.age, h.ok.small, h.ok.len, by rw [← hl]; exact hno⟩, h.glb, h.nl⟩
  · rw [ht6.block _ (block_lt hI.blk) h.ne1, hI.blk, costOf_upto row0.length k (by omega) hk, hl]
    rfl
  · by_cases hq : q = j
    · subst hq
      rw [upd_same]
      show GridO w6 (some tv) (if q = q then some _ else D.rows q) X
      rw [if_pos rfl]
      obtain ⟨vs, G, o1, o2, o3, o4⟩ := hI.ex
      have hvl : vs.length = k + 1 := by have := o1.1; omega
      have hne : ∀ b, w.heap.size ≤ b → b ≠ a.rb := fun b hb e => by have := h.rowsM.lt; omega
      have kp : ∀ b, b < wr.heap.size → w.heap.size ≤ b → w6.heap[b]? = wr.heap[b]? := fun b hb hw => ht6.block b hb (hne b hw)
      refine ⟨vs, ((SlIn.of_own o1).keep ht6.size fun b hb hX' => kp b hb hX').mono fun b _ hb => hX b hb, by simp [hvl], fun q hq1 hq2 => ?_⟩
      rw [List.getElem_map, List.getElem_range]
      exact ((o3 q hq1).keep ht6.size fun b hb hX' => kp b hb hX'.1).mono fun b _ hb => hX b hb.1
    · rw [upd_other _ _ hq]
      show GridO w6 (rv q) (if q = j then some _ else D.rows q) X
      rw [if_neg hq]
      exact (h.grid q).keep hT.size fun b hb hX' => hT.block b hb (h.apX b hX')
theorem infoSS : (Tryz.prog.info? 32).map (fun i => (i.zero, i.size, i.bytes)) = some (some (.slice none 0 0), 1, 24) := by kernel_rfl
set_option maxHeartbeats 8000000 in
set_option maxRecDepth 100000 in
theorem hash_calls (h : EngIn w a D X lv rv sf ns) (hG : Glob w) (j : Nat) (hj : j ≤ 68719476736) (hXn : ∀ b, w.heap.size ≤ b → X b) (hno : D.nodes + costOf (seg D.L (j * D.size) D.size).length ≤ 1152921504606846976) :
    Calls Tryz.prog 96 #[.pointer (some ⟨a.eb, 0, none⟩), .int .i64 j] w fun r w' => r = .returned (.tuple #[]) ∧ ∃ g rv2, RowsOk D.W (seg D.L (j * D.size) D.size) g ∧ EngIn w' a (D.hashed j g (costOf (seg D.L (j * D.size) D.size).length)) X lv rv2 sf ns ∧ Turn a.own w w' := by
  have HXN := Lib.hid hXn
  have HNO := Lib.hid hno
  clear hXn hno
  have HG := Lib.hid hG
  have HL := Lib.hid (leaves_calls h j hj)
  have HSL := Lib.hid (slin_cutV D.L h.list (j * D.size) D.size)
  have hsz := h.ok.size_le
  have hxl : (seg D.L (j * D.size) D.size).length ≤ 1024 := by rw [seg_len]; omega
  have HXS := Lib.hid (show ∀ x ∈ seg D.L (j * D.size) D.size, x.size ≤ 4096 from fun x hx => h.ok.small x (List.mem_of_mem_drop (List.mem_of_mem_take hx)))
  obtain ⟨xs, hxs⟩ : ∃ xs, xs = seg D.L (j * D.size) D.size := ⟨_, rfl⟩
  obtain ⟨cv, hcv⟩ : ∃ cv, cv = cutV lv (j * D.size) D.size := ⟨_, rfl⟩
  rw [← hxs] at HSL HXS hxl HNO ⊢
  rw [← hcv] at HSL HL
  have HSL' := Lib.hid HSL.out
  obtain ⟨A, cap, hcs, hcap, hcells⟩ := HSL'.out
  obtain ⟨n, hnx⟩ : ∃ n, n = xs.length := ⟨_, rfl⟩
  have hml : (xs.map Value.string).length = n := by rw [List.length_map, hnx]
  have HC := Lib.hid (show 0 < n → ∃ b o, A = some ⟨b, o, none⟩ ∧ b < w.heap.size ∧ ∀ i (h : i < xs.length), w.cell? ⟨b, o + i, none⟩ = some (.string xs[i]) from fun h => by
    obtain ⟨b, o, h1, h2, _, h4⟩ := hcells (by omega)
    exact ⟨b, o, h1, h2, fun i hi => by rw [h4 i (by omega), List.getElem_map]⟩)
  rw [hml] at hcs hcap
  rw [← hnx] at hxl
  have HN := Lib.hid hnx
  have HBLK := Lib.hid h.blk
  have HLT := Lib.hid (h.low (b := a.eb) (.inl rfl))
  have HC4 := Lib.hid h.c4
  have HGB := Lib.hid (show ¬ GlobB a.eb from fun hg => h.glb _ hg (.inl rfl))
  subst hcs
  clear hcells hml hnx hcv hxs
  have H := Lib.hid h
  clear h hG HSL'
  obtain ⟨i0, hi, hz0, hz1, hz2⟩ := info_parts infoS
  obtain ⟨j0, hj0, hy0, hy1, hy2⟩ := info_parts infoSS
  obtain ⟨eb, hebe⟩ : ∃ eb, eb = a.eb := ⟨_, rfl⟩
  rw [← hebe] at HL HBLK HLT HC4 HGB ⊢
  have HEB := Lib.hid hebe
  clear hebe
  obtain ⟨WW, hWW⟩ : ∃ x, x = D.W := ⟨_, rfl⟩
  rw [← hWW] at HC4
  have HWW := Lib.hid hWW
  clear hWW
  go_enter Tryz.func96, Tryz.ntmps96
  go_wp2_with fail
  refine (HL.out).mono ?_
  rintro r w1 ⟨rfl, m1, rfl⟩
  have hb0 : Below w.heap.size w (w.drewN m1) := below_drewN (Below.refl _ w) m1
  have hs0 : (w.drewN m1).heap.size = w.heap.size := rfl
  obtain ⟨w1, hw1⟩ : ∃ w1, w1 = w.drewN m1 := ⟨_, rfl⟩
  rw [← hw1] at hb0 hs0 ⊢
  have HB0 := Lib.hid hb0
  have HS0 := Lib.hid hs0
  clear hw1 hb0 hs0
  go_wp2
  go_loopw [4, 14] (fun rv iv wr => ∃ i : Nat, iv = .int .i64 i ∧ i ≤ n ∧ Hid (wr.ownsRow w.heap.size 9 1 rv i (((xs.map (leafH WW)).take i).map Value.string)) ∧ Hid (Below w.heap.size w wr)) (fun _ iv _ => n - (intOf iv).toNat)
  case atStart => exact ⟨0, rfl, by omega, Lib.hid (by simpa using World.ownsRow_nil _ _ _ _), HB0⟩
  case round =>
    clear HB0 HS0
    obtain ⟨i, rfl, hin, HR, HB⟩ := hrel
    by_cases hlt : i < n
    · obtain ⟨b, o, rfl, hbl, hc⟩ := HC.out (by omega)
      have hix : i < xs.length := by have := HN.out; omega
      have c1 := hc i hix
      rw [← HB.out.cell (p := ⟨b, o + i, none⟩) hbl] at c1
      have hs := HXS.out xs[i] (List.getElem_mem _)
      obtain ⟨x, hxe⟩ : ∃ x, x = xs[i] := ⟨_, rfl⟩
      rw [← hxe] at c1 hs
      have HTK := Lib.hid (show ((xs.map (leafH WW)).take (i + 1)).map Value.string = ((xs.map (leafH WW)).take i).map Value.string ++ [Value.string (leafH WW x)] by
        rw [List.take_succ_eq_append_getElem (by simpa using hix), List.map_append, List.getElem_map, ← hxe]; rfl)
      obtain ⟨us, hus⟩ : ∃ us, us = ((xs.map (leafH WW)).take i).map Value.string := ⟨_, rfl⟩
      rw [← hus] at HTK HR
      clear hus
      have c4 : wr.cell? ⟨eb, 4, none⟩ = some (.int .i64 (WW : Int)) := (HB.out.cell (p := ⟨eb, 4, none⟩) HLT.out).trans HC4.out
      have HS := Lib.hid hs
      clear hc hxe hix hs
      go_wp2_with fail
      refine (leaf_calls WW x (by have := HS.out; omega) wr (HG.out.keep HB.out)).mono ?_
      rintro r w2 ⟨rfl, hb2⟩
      have HB2 := Lib.hid (HB.out.trans (hb2.mono HB.out.size))
      have HR2 := Lib.hid (own_keep HR.out fun b cur hb => hb2.block b (block_lt hb))
      obtain ⟨hx, hhx⟩ : ∃ y, y = mk (hashF WW (0 :: x.data.toList)) := ⟨_, rfl⟩
      have HHX := Lib.hid (show leafH WW x = hx from hhx.symm)
      rw [← hhx]
      rw [HHX.out] at HTK
      clear hb2 hhx c1 c4
      go_wp2_with (at_builtin; go_must (refine wpList_append_lies _ rfl (.tmp 18) (.tmp 26) 32 rfl w.heap.size 9 i0 (.string ⟨#[]⟩) 1 16 Tryz.underlying32 hi hz0 hz1 hz2 rfl (by decide) _ _ _ rfl (HR2.out.alloc _) ⟨w2.heap.size, 0, none⟩ 1 1 [Value.string hx] rfl rfl (World.news_of_block (MapKept.heap_alloc _ _).1) (by intro u hu; simp at hu; subst hu; rfl) (by decide) (by unfold maxLen; omega) (by omega) (by have := HB2.out.size; simp; omega) _ rfl ?_))
      intro g cap2 w3 hown3 hgrow hat hltg
      have HB3 := Lib.hid ((HB2.out.alloc HB2.out.size _).grown hgrow (by have := HB2.out.size; simp; omega) (fun k hk => own_ge HR2.out hk))
      have HR3 := Lib.hid (show w3.ownsRow w.heap.size 9 1 (.slice (some ⟨g, 0, none⟩) (i + 1) cap2) (i + 1) (((xs.map (leafH WW)).take (i + 1)).map Value.string) by rw [HTK.out]; exact hown3)
      clear hown3 hgrow hat hltg
      go_wp2
      exact ⟨⟨i + 1, by go_num, by omega, HR3, HB3⟩, by simp [intOf]; omega⟩
    · obtain rfl : i = n := by omega
      clear hlt hin
      have hfull : ((xs.map (leafH WW)).take i).map Value.string = (lvl WW (xs.map (leafH WW)) 0).map Value.string := by
        rw [List.take_of_length_le (by rw [List.length_map]; have := HN.out; omega)]; rfl
      have hRv := HR.out
      rw [hfull] at hRv
      clear hfull
      obtain ⟨row0, hrow0⟩ : ∃ r, r = xs.map (leafH WW) := ⟨_, rfl⟩
      have hl0 : row0.length = i := by rw [hrow0, List.length_map]; exact HN.out.symm
      rw [← hrow0] at hRv
      obtain ⟨A4, c4, rfl, hc4⟩ := own_form hRv
      have hI : HInv w (wr.alloc (.cells #[.slice A4 i c4] 32)) eb a D lv WW row0 0 (.slice A4 i c4) (.slice (some ⟨wr.heap.size, 0, none⟩) 1 1) := by
        have hb := HB.out.alloc HB.out.size (.cells #[.slice A4 i c4] 32)
        refine ⟨Turn.of_below hb, (hb.block _ HLT.out).trans HBLK.out, [.slice A4 i c4], wr.heap.size, ⟨rfl, .inr ⟨wr.heap.size, 1, #[.slice A4 i c4], rfl, HB.out.size, (MapKept.heap_alloc wr _).1, Nat.le_refl _, by unfold maxLen; decide, rfl, rfl⟩⟩, rfl, fun q hq => ?_, rfl⟩
        obtain rfl : q = 0 := by simpa using hq
        exact ((SlIn.of_own hRv).here.keep (by simp) fun b hb' _ => Below.heap_alloc _ _ b hb').mono fun b hb' hX => ⟨hX.1, by omega⟩
      have HI := Lib.hid hI
      have HL0 := Lib.hid hl0
      have HROW := Lib.hid hrow0
      clear hI hl0 hRv HR HB hrow0
      go_wp2_with fail
      obtain ⟨w5, hw5⟩ : ∃ w5, w5 = wr.alloc (.cells #[.slice A4 i c4] 32) := ⟨_, rfl⟩
      rw [← hw5] at HI ⊢
      clear hw5
      go_loopw [4, 7] (fun rv tv wr => ∃ k A c T cT, rv = .slice A (row0.length / 2 ^ k) c ∧ Hid (2 ^ k ≤ max row0.length 1) ∧ row0.length / 2 ^ k ≤ c ∧ tv = .slice T (k + 1) cT ∧ Hid (HInv w wr eb a D lv WW row0 k rv tv)) (fun rv _ _ => lenOf rv)
      case atStart => exact ⟨0, A4, c4, _, 1, by rw [HL0.out]; simp, Lib.hid (by simp; omega), by rw [HL0.out]; simpa using hc4, rfl, HI⟩
      case round =>
        clear HI
        obtain ⟨k, A, c, T, cT, rfl, HKM, hlc, rfl, HI⟩ := hrel
        have HKB := Lib.hid (show k ≤ 10 from by
          have h1 := HKM.out
          have h2 := HL0.out
          by_cases hk : k ≤ 10
          · exact hk
          · have : 2 ^ 11 ≤ 2 ^ k := Nat.pow_le_pow_right (by decide) (by omega)
            omega)
        obtain ⟨ln, hln⟩ : ∃ x, x = row0.length / 2 ^ k := ⟨_, rfl⟩
        have HLN := Lib.hid hln
        have hln2 : ln ≤ 1024 := by rw [hln, HL0.out]; exact Nat.le_trans (Nat.div_le_self _ _) hxl
        rw [← hln] at HI hlc ⊢
        clear hln
        by_cases hlt : 1 < ln
        · have k1 : decide ((1 : Int) < (ln : Int)) = true := decide_eq_true (by omega)
          have HB1 := Lib.hid HI.out.turn.size
          have HI1 := Lib.hid (show HIn wr wr eb a D lv WW (lvl WW row0 k) (sumN (fun q => row0.length / 2 ^ (q + 1)) k) 0 (.slice none 0 0) from ⟨Turn.refl _ _, HI.out.blk, by simpa using World.ownsRow_nil _ _ _ _⟩)
          obtain ⟨cn, hcn⟩ : ∃ x, x = sumN (fun q => row0.length / 2 ^ (q + 1)) k := ⟨_, rfl⟩
          rw [← hcn] at HI1
          have HCN := Lib.hid hcn
          have HCNB := Lib.hid (show cn ≤ 1024 from by
            have h1 := sum_halves row0.length k
            rw [← hcn] at h1
            have h2 := HL0.out
            have h3 := Nat.le_trans (Nat.le_add_right _ _) h1
            omega)
          clear hcn
          obtain ⟨row, hrow⟩ : ∃ r, r = lvl WW row0 k := ⟨_, rfl⟩
          rw [← hrow] at HI1
          have HRL := Lib.hid (show row.length = ln by rw [hrow, lvl_len]; exact HLN.out.symm)
          have HRW := Lib.hid hrow
          clear hrow
          -- the row's cells
          have HCR := Lib.hid (show ∃ rb ro, A = some ⟨rb, ro, none⟩ ∧ rb < wr.heap.size ∧ w.heap.size ≤ rb ∧ ∀ q (h : q < row.length), wr.cell? ⟨rb, ro + q, none⟩ = some (.string row[q]) from by
            obtain ⟨vs, G, q1, q2, q3, q4⟩ := HI.out.ex
            obtain ⟨hk, q4⟩ := List.getElem?_eq_some_iff.1 q4
            have := q3 k hk
            rw [q4, ← HRW.out] at this
            obtain ⟨A', cap', e, _, hcl⟩ := this
            injection e with e1 e2 e3
            subst e1
            obtain ⟨rb, ro, p1, p2, p3, p4⟩ := hcl (by rw [List.length_map, HRL.out]; omega)
            exact ⟨rb, ro, p1, p2, p3.1, fun q hq => by rw [p4 q (by rw [List.length_map]; exact hq), List.getElem_map]⟩)
          obtain ⟨rb, ro, rfl, hrb, hrb2, hcr⟩ := HCR.out
          have HCRC := Lib.hid hcr
          have hne : rb ≠ eb := by have := HLT.out; omega
          clear HCR hcr
          obtain ⟨wk, hwk⟩ : ∃ wk, wk = wr := ⟨_, rfl⟩
          rw [← hwk] at HI HB1 HI1 hrb HCRC ⊢
          clear hwk
          go_wp2
          go_loopw [8, 9] (fun av iv w2 => ∃ m A c, av = .slice A m c ∧ iv = .int .i64 ((2 * m : Nat) : Int) ∧ m ≤ ln / 2 ∧ Hid (HIn wk w2 eb a D lv WW row cn m av)) (fun _ iv _ => ln - (intOf iv).toNat)
          case atStart => exact ⟨0, none, 0, rfl, rfl, by omega, HI1⟩
          case round =>
            clear HI1
            obtain ⟨m, A8, c8, rfl, rfl, hm, HM⟩ := hrel
            obtain ⟨i2, hi2⟩ : ∃ x, x = 2 * m := ⟨_, rfl⟩
            have HI2 := Lib.hid hi2
            rw [← hi2]
            by_cases hlt2 : i2 + 1 < ln
            · have k2 : decide ((i2 : Int) + 1 < (ln : Int)) = true := decide_eq_true (by omega)
              have hlt1 : i2 < ln := by omega
              obtain ⟨i3, hi3⟩ : ∃ x, x = i2 + 1 := ⟨_, rfl⟩
              have hwr : IntKind.i64.wrap ((i2 : Int) + 1) = (i3 : Int) := by simp [IntKind.wrap, IntKind.signed, IntKind.bits]; omega
              have hlt3 : i3 < ln := by omega
              have hm1 : 2 * m + 1 < row.length := by rw [HRL.out]; have := HI2.out; omega
              have hx1 : wr.cell? ⟨rb, ro + i2, none⟩ = some (.string (row[2 * m]'(by omega))) := by
                rw [HM.out.turn.cell (p := ⟨rb, ro + i2, none⟩) hrb hne, hi2]; exact HCRC.out (2 * m) (by omega)
              have hy1 : wr.cell? ⟨rb, ro + i3, none⟩ = some (.string row[2 * m + 1]) := by
                rw [HM.out.turn.cell (p := ⟨rb, ro + i3, none⟩) hrb hne, hi3, hi2]; exact HCRC.out (2 * m + 1) hm1
              have HUP := Lib.hid (show ((upRow WW row).take (m + 1)).map Value.string = ((upRow WW row).take m).map Value.string ++ [Value.string (nodeH WW (row[2 * m]'(by omega)) row[2 * m + 1])] by
                rw [upRow_take WW row m hm1, List.map_append]; rfl)
              have hsm := lvl_small WW row0 (by rw [HROW.out]; intro z hz; obtain ⟨z', _, rfl⟩ := List.mem_map.1 hz; exact leafH_size _ _) k
              rw [← HRW.out] at hsm
              have hsx := hsm (row[2 * m]'(by omega)) (List.getElem_mem _)
              have hsy := hsm row[2 * m + 1] (List.getElem_mem _)
              obtain ⟨x, hx⟩ : ∃ x, x = row[2 * m]'(by omega) := ⟨_, rfl⟩
              obtain ⟨y, hy⟩ : ∃ y, y = row[2 * m + 1] := ⟨_, rfl⟩
              rw [← hx] at hx1 hsx HUP
              rw [← hy] at hy1 hsy HUP
              obtain ⟨us, hus⟩ : ∃ us, us = ((upRow WW row).take m).map Value.string := ⟨_, rfl⟩
              have HOW := Lib.hid HM.out.own
              rw [← hus] at HUP HOW
              have hc4b : wr.cell? ⟨eb, 4, none⟩ = some (.int .i64 (WW : Int)) := by rw [HWW.out]; exact cell_of_block (off := 4) HM.out.blk (by show 4 < 16; decide)
              have HTW := Lib.hid (show Turn (fun b => b = eb) w wr from HI.out.turn.trans HM.out.turn)
              have HND := Lib.hid (fun w' (hb : Below wr.heap.size wr w') => node_calls WW x y (by omega) (by omega) w' ((HG.out.turn HTW.out (fun b hb he => HGB.out (he ▸ hb))).keep hb))
              have hs2 : rb < wr.heap.size := Nat.lt_of_lt_of_le hrb HM.out.turn.size
              have hs3 : eb < wr.heap.size := block_lt HM.out.blk
              have HS2 := Lib.hid hs2
              have HS3 := Lib.hid hs3
              obtain ⟨nv, hnv⟩ : ∃ nv, nv = nodeH WW x y := ⟨_, rfl⟩
              rw [← hnv] at HUP
              rw [show mk (hashF WW (1 :: (x.data.toList ++ y.data.toList))) = nv from hnv.symm] at HND
              clear hx hy hus hsx hsy hsm hi2 hi3 hnv hs2 hs3 hm1
              go_wp2_with fail
              refine wp_region_tree (fun w' => w'.cell? ⟨eb, 4, none⟩ = some (.int .i64 (WW : Int)) ∧ w'.cell? ⟨rb, ro + i2, none⟩ = some (.string x) ∧ w'.cell? ⟨rb, ro + i3, none⟩ = some (.string y)) (.hd 0 (.hd 1 (.hd 2 (.hd 3 (.hd 4 (.hd 5 (.hd 6 (.hd 7 (.hd 8 (.hd 9 (.hd 10 (.hd 11 (.hd 12 (.hd 13 (.hd 14 (.fk 15 (.fk 16 (.fk 17 (.fk 18 .nil .no) .no) .no) .no)))))))))))))))) (by kernel_rfl) (by kernel_rfl) (fun _ _ d _ _ h => by cases d <;> exact h) ⟨hc4b, hx1, hy1⟩ ?_
              iterate 15
                refine hdT ?_ ?_ (by rfl) (by rfl) (fun w' s1 => ?_) ?_ ?_
                rotate_left 2
                focus (obtain ⟨s1, s2, s3⟩ := s1; go_simp; exact rfl)
                focus (go_simp; exact rfl)
              refine fkT (by rfl) (by rfl) (fun K hK => ?_) noT
              go_wp2_with fail
              refine (HND.out _ (Below.refl _ wr).drew).mono ?_
              rintro r w3 ⟨rfl, hb3⟩
              refine hK _ _ ⟨(hb3.cell (p := ⟨eb, 4, none⟩) HS3.out).trans hc4b, (hb3.cell (p := ⟨rb, ro + i2, none⟩) HS2.out).trans hx1, (hb3.cell (p := ⟨rb, ro + i3, none⟩) HS2.out).trans hy1⟩ ?_
              clear hK
              have hB3 : Below wr.heap.size wr w3 := (Below.refl _ wr).drew.trans hb3
              have HB3 := Lib.hid hB3
              have hO3 : w3.ownsRow wk.heap.size 9 1 (.slice A8 m c8) m us := own_keep HOW.out fun b cur hb => hB3.block b (block_lt hb)
              have HO3 := Lib.hid hO3
              clear hb3 hO3 hB3
              refine fkT (by rfl) (by rfl) (fun K hK => ?_) noT
              go_wp2_with fail
              refine hK _ _ ⟨((HB3.out.alloc HB3.out.size _).cell (p := ⟨eb, 4, none⟩) HS3.out).trans hc4b, ((HB3.out.alloc HB3.out.size _).cell (p := ⟨rb, ro + i2, none⟩) HS2.out).trans hx1, ((HB3.out.alloc HB3.out.size _).cell (p := ⟨rb, ro + i3, none⟩) HS2.out).trans hy1⟩ ?_
              clear hK hc4b hx1 hy1
              refine fkTn (by kernel_rfl) (by rfl) (by rfl) (fun K hK => ?_) noT
              refine wp_append_lies _ (.tmp 41) (.tmp 57) 32 (by rfl) wk.heap.size 9 i0 (.string ⟨#[]⟩) 1 16 Tryz.underlying32 hi hz0 hz1 hz2 rfl (by decide) _ _ _ (by rfl) (HO3.out.alloc _) ⟨w3.heap.size, 0, none⟩ 1 1 [Value.string nv] (by rfl) (by rfl) (World.news_of_block (MapKept.heap_alloc _ _).1) (by intro u hu; simp at hu; subst hu; rfl) (by decide) (by unfold maxLen; omega) (by omega) (by have := HB3.out.size; have := HM.out.turn.size; simp; omega) _ rfl ?_
              intro g cap3 w4 hown4 hgrow hat hltg
              refine hK _ _ ?_
              clear hK
              have ht4 : Turn (fun b => b = eb) wk w4 := ((HM.out.turn.trans (Turn.of_below HB3.out)).alloc _).grown hgrow (fun k hk => .inr (own_ge HO3.out hk))
              have hblk4 : w4.heap[eb]? = some (.cells (engC a (D.addNodes (cn + m)) lv) 88 (0, 0)) :=
                (hgrow.block eb (by simp; have := HB3.out.size; have := HS3.out; omega) (fun e => by have := own_ge HO3.out e.symm; have := HI.out.turn.size; have := HLT.out; omega)).trans ((Below.heap_alloc _ _ _ (Nat.lt_of_lt_of_le HS3.out HB3.out.size)).trans ((HB3.out.block eb HS3.out).trans HM.out.blk))
              have HT4 := Lib.hid ht4
              have HBK4 := Lib.hid hblk4
              have HOW4 := Lib.hid (show w4.ownsRow wk.heap.size 9 1 (.slice (some ⟨g, 0, none⟩) (m + 1) cap3) (m + 1) (((upRow WW row).take (m + 1)).map Value.string) by rw [HUP.out]; exact hown4)
              clear ht4 hblk4 hown4 hgrow hat hltg
              refine fkTn (by kernel_rfl) (by rfl) (by rfl) (fun K hK => ?_) noT
              go_wp2_with fail
              refine nilT ?_
              obtain ⟨N, hN⟩ : ∃ N, N = D.nodes + (cn + m) := ⟨_, rfl⟩
              have hNb : N ≤ 1152921504606856976 := by have := H.out.ok.nodes; have := HCNB.out; omega
              have d15 : w4.cell? ⟨eb, 15, none⟩ = some (.int .i64 (N : Int)) := by rw [hN]; exact cell_of_block (off := 15) HBK4.out (by show 15 < 16; decide)
              have e15 := frozen_of_block (off := 15) HBK4.out
              have HSET := Lib.hid (show (w4.setCell ⟨eb, 15, none⟩ (.int .i64 ((N : Int) + 1))).heap[eb]? = some (.cells (engC a (D.addNodes (cn + (m + 1))) lv) 88 (0, 0)) by
                rw [show (N : Int) + 1 = ((D.nodes + (cn + (m + 1)) : Nat) : Int) by omega, block_setCell (off := 15) HBK4.out]; rfl)
              clear hN
              go_wp2
              exact ⟨⟨m + 1, _, _, rfl, by congr 1; have := HI2.out; omega, by have := HI2.out; omega, Lib.hid ⟨HT4.out.setCell (p := ⟨eb, 15, none⟩) (.inl rfl) _, HSET.out, own_keep HOW4.out fun b cur hb => block_other (fun e => by
                subst e
                have := HBK4.out.symm.trans hb
                simp [engC] at this) _⟩⟩, by simp [intOf]; omega⟩
            · have hme : m = ln / 2 := by omega
              have k2 : ¬ ((i2 : Int) + 1 < (ln : Int)) := by omega
              have k2' : (ln : Int) ≤ (i2 : Int) + 1 := by omega
              have k2b : i2 ≤ 4096 := by omega
              clear hi2
              have HME := Lib.hid hme
              clear hme
              have hOS := HI.out.ex
              obtain ⟨vs, G, o1, o2, o3, o4⟩ := hOS
              have HOV := Lib.hid (own_keep o1 fun b cur hb => HM.out.turn.block b (block_lt hb) (fun e => by subst e; have := HI.out.blk.symm.trans hb; simp [engC] at this))
              have HVS := Lib.hid (And.intro o2 (And.intro o3 (And.intro o4 o1)))
              have HMS := Lib.hid HM.out.turn.size
              have HTK := Lib.hid (show ((upRow WW row).take m).map Value.string = (lvl WW row0 (k + 1)).map Value.string by
                rw [List.take_of_length_le (by rw [upRow_len, HRL.out, HME.out]; exact Nat.le_refl _), HRW.out]; rfl)
              clear o1 o2 o3 o4
              go_wp2_with (at_builtin; go_must (refine wpList_append_lies _ rfl (.tmp 66) (.tmp 68) 22 rfl w.heap.size 32 j0 (.slice none 0 0) 1 24 Tryz.underlying22 hj0 hy0 hy1 hy2 rfl (by decide) _ _ _ rfl (HOV.out.alloc _) ⟨wr.heap.size, 0, none⟩ 1 1 [.slice A8 m c8] rfl rfl (World.news_of_block (MapKept.heap_alloc _ _).1) (by intro u hu; simp at hu; subst hu; rfl) (by decide) (by have := HKB.out; unfold maxLen; omega) (by have := HKB.out; omega) (by have := HMS.out; have := HB1.out; simp; omega) _ rfl ?_))
              intro g cap3 w4 hown4 hgrow hat hltg
              have HNX := Lib.hid (HInv.next HI.out HLT.out HM.out HRW.out HCN.out (by rw [HRL.out]; exact HME.out) HVS.out.2.2.2 HVS.out.1 HVS.out.2.1 hgrow hown4 (hat.imp id fun e => by simpa using e))
              clear hown4 hgrow hat hltg
              have HM2 := Lib.hid (show m = row0.length / 2 ^ (k + 1) by rw [HME.out, HLN.out, Nat.div_div_eq_div_mul, ← Nat.pow_succ])
              have HLA := Lib.hid (own_form HM.out.own)
              have HKM2 := Lib.hid (show 2 ^ (k + 1) ≤ max row0.length 1 from by
                have h1 : 2 ≤ row0.length / 2 ^ k := by rw [← HLN.out]; exact hlt
                have h2 := (Nat.le_div_iff_mul_le (Nat.two_pow_pos k)).1 h1
                rw [Nat.pow_succ]; omega)
              go_wp2
              obtain ⟨A9, c9, e9, hc9⟩ := HLA.out
              injection e9 with e1 e2 e3
              exact ⟨⟨k + 1, A8, c8, _, cap3, by rw [← HM2.out], HKM2, by rw [← HM2.out, e3]; exact hc9, rfl, HNX⟩, by show m < ln; have := HME.out; omega⟩
        · have k1 : decide ((1 : Int) < (ln : Int)) = false := decide_eq_false (by omega)
          obtain ⟨rbm, hrbm⟩ : ∃ x, x = a.rb := ⟨_, rfl⟩
          have hIMw : IntMap Tryz.prog 3 wr rbm rv := by rw [hrbm]; exact H.out.rowsM.keep (HI.out.turn.block _ H.out.rowsM.lt (by rw [HEB.out]; exact fun e => H.out.ne1 e.symm))
          obtain ⟨w6, hrun, hIM, hMT⟩ := hIMw.store Tryz.underlying3 Tryz.underlying84 (show j < big by unfold big; omega) (.slice T (k + 1) cT)
          have c11 : wr.cell? ⟨eb, 11, none⟩ = some (.map (some rbm)) := by rw [hrbm]; exact cell_of_block (off := 11) HI.out.blk (by show 11 < 16; decide)
          have HFIN := Lib.hid (EngIn.hashed H.out j HEB.out HI.out HWW.out HROW.out HXN.out (by rw [← hrbm]; exact hIM) (by rw [← hrbm]; exact hMT) (by rw [← HLN.out]; omega) HKB.out (by rw [HL0.out, HN.out] ; exact HNO.out))
          clear hIM hMT hIMw hrbm
          go_wp2
          go_end0
          exact ⟨rfl, HFIN.out⟩
end
end Go.Proofs.YtblkehdpenfhjaaGreatDoor
/-
  Package shard: rehash.
-/
set_option linter.unusedVariables false
set_option linter.unusedSimpArgs false
namespace Go.Proofs.YtblkehdpenfhjaaGreatDoor
open Go.RowKit Go.Maps Go.ChangeMaps Go.MapKept

section
variable {w w' : World} {a : EA} {D : ED} {X Y : Nat → Prop} {lv : Value} {rv : Nat → Option Value} {sf : Lit → Option Value} {ns : Nat}
/-- a shard's leaves -/
def ED.shard (D : ED) (j : Nat) : List ByteArray := seg D.L (j * D.size) D.size
def ED.cleaned (D : ED) (j : Nat) (g : List (List ByteArray)) (c : Nat) : ED := { D.hashed j g c with dirty := fun q => if q = j then false else D.dirty q }
theorem boolF_upd (f : Nat → Bool) (j : Nat) : upd (boolF f) j none = boolF (fun q => if q = j then false else f q) := by
  funext q
  unfold upd boolF
  by_cases h : q = j
  · simp [h]
  · simp [h]
set_option maxHeartbeats 4000000 in
set_option maxRecDepth 100000 in
/-- a shard that is not dirty -/
theorem rehash_no (h : EngIn w a D X lv rv sf ns) (j : Nat) (hj : j ≤ 68719476736) (hd : D.dirty j = false) :
    Calls Tryz.prog 87 #[.pointer (some ⟨a.eb, 0, none⟩), .int .i64 j] w fun r w' => r = .returned (.tuple #[]) ∧ w = w' := by
  have c12 := h.c12
  have hl := h.dirtyM.look Tryz.underlying3 Tryz.underlying85 (Tryz.zeroValue4 w) (show j < big by unfold big; omega)
  rw [show boolF D.dirty j = none by unfold boolF; rw [hd]; rfl, Option.getD_none] at hl
  obtain ⟨eb, sb, rb, db, ub, pb⟩ := a
  dsimp only at c12 hl ⊢
  clear h hd hj
  go_enter Tryz.func87, Tryz.ntmps87
  go_wp2
  go_end0
  exact ⟨rfl, by first | rfl | trivial⟩
set_option maxHeartbeats 4000000 in
set_option maxRecDepth 100000 in
theorem rehash_yes (h : EngIn w a D X lv rv sf ns) (hG : Glob w) (j : Nat) (hj : j ≤ 68719476736) (hXn : ∀ b, w.heap.size ≤ b → X b) (hno : D.nodes + costOf (D.shard j).length ≤ 1152921504606846976) (hd : D.dirty j = true) :
    Calls Tryz.prog 87 #[.pointer (some ⟨a.eb, 0, none⟩), .int .i64 j] w fun r w' => r = .returned (.tuple #[]) ∧ ∃ g rv2, RowsOk D.W (D.shard j) g ∧ EngIn w' a (D.cleaned j g (costOf (D.shard j).length)) X lv rv2 sf ns ∧ Turn a.own w w' := by
  have HH := Lib.hid (hash_calls h hG j hj hXn hno)
  have c12 := h.c12
  have hl := h.dirtyM.look Tryz.underlying3 Tryz.underlying85 (Tryz.zeroValue4 w) (show j < big by unfold big; omega)
  rw [show boolF D.dirty j = some (.bool true) by unfold boolF; rw [hd]; rfl, Option.getD_some] at hl
  have HJ := Lib.hid hj
  obtain ⟨eb, heb⟩ : ∃ x, x = a.eb := ⟨_, rfl⟩
  have HEB := Lib.hid heb
  obtain ⟨db, hdb⟩ : ∃ x, x = a.db := ⟨_, rfl⟩
  have HDB := Lib.hid hdb
  rw [← heb] at HH c12 ⊢
  rw [← hdb] at c12 hl
  clear h hd hj hno hXn hG heb hdb
  go_enter Tryz.func87, Tryz.ntmps87
  go_wp2_with fail
  refine (HH.out).mono ?_
  rintro r w1 ⟨rfl, g, rv2, hg, hE, hT⟩
  clear c12 hl
  have hE' := hE
  obtain ⟨w2, hrun, hIM, hMT⟩ := hE.dirtyM.drop (t := 85) (e := 4) Tryz.underlying3 Tryz.underlying85 (show j < big by unfold big; have := HJ.out; omega) 0
  have c12 : w1.cell? ⟨eb, 12, none⟩ = some (.map (some db)) := by rw [HEB.out, HDB.out]; exact hE.c12
  rw [← HDB.out] at hrun
  have HFIN := Lib.hid (show ∃ g rv2, RowsOk D.W (D.shard j) g ∧ EngIn w2 a (D.cleaned j g (costOf (D.shard j).length)) X lv rv2 sf ns ∧ Turn a.own w w2 from by
    have ht := mapTurned_turn hMT
    have hT2 : Turn a.own w1 w2 := ht.mono fun i hi => .inl (.inr (.inr (.inl hi)))
    rw [boolF_upd] at hIM
    refine ⟨g, rv2, hg, ⟨(ht.block _ (block_lt hE.blk) hE.ne2).trans hE.blk, hE.rowsM.keep (ht.block _ hE.rowsM.lt hE.ap1), hIM, hE.unwrM.keep (ht.block _ hE.unwrM.lt hE.ap4.symm), hE.spineM.keep (ht.block _ hE.spineM.lt hE.ap5.symm),
      hE.list.keep ht.size fun b hb hX' => hT2.block b hb (hE.apX b hX'), fun q => (hE.grid q).keep ht.size fun b hb hX' => hT2.block b hb (hE.apX b hX'), hE.spv, hE.nsle, hE.ap1, hE.ap2, hE.ap3, hE.ap4, hE.ap5, hE.ap6, hE.apX, ⟨hE.ok.W1, hE.ok.W2, hE.ok.B, hE.ok.space, hE.ok.age, hE.ok.small, hE.ok.len, hE.ok.nodes⟩, hE.glb, hE.nl⟩, hT.trans hT2⟩)
  clear hE hE' hT hg hIM hMT
  go_wp2
  go_end0
  exact ⟨rfl, HFIN.out⟩
/-- the same engine, but for what it has reckoned -/
structure Like (D D' : ED) : Prop where
  W : D'.W = D.W
  B : D'.B = D.B
  space : D'.space = D.space
  age : D'.age = D.age
  L : D'.L = D.L
  unwr : D'.unwr = D.unwr
theorem Like.refl (D : ED) : Like D D := ⟨rfl, rfl, rfl, rfl, rfl, rfl⟩
theorem Like.trans {D D' D'' : ED} (h : Like D D') (k : Like D' D'') : Like D D'' := ⟨k.W.trans h.W, k.B.trans h.B, k.space.trans h.space, k.age.trans h.age, k.L.trans h.L, k.unwr.trans h.unwr⟩
theorem Like.size {D D' : ED} (h : Like D D') : D'.size = D.size := by unfold ED.size; rw [h.B]
/-- what it has reckoned is right -/
structure Good (D : ED) : Prop where
  rows : ∀ j, j * D.size < D.L.length → D.dirty j = false → ∃ g, D.rows j = some g ∧ RowsOk D.W (D.shard j) g
  spine : ∀ l i h, D.spine l i = some h → D.B < l ∧ l ≤ 62 ∧ (i + 1) * 2 ^ l ≤ D.L.length ∧ h = nodeF D.W D.L l i
def ED.shards (D : ED) : Nat := (D.L.length + D.size - 1) / D.size
def one (b : Bool) : Nat := if b then 1 else 0
theorem one_le (b : Bool) : one b ≤ 1 := by unfold one; split <;> omega
def rcost (D : ED) (j : Nat) : Nat := if D.dirty j then 0 else costOf (D.shard j).length
def cntR (D : ED) : Nat := sumN (rcost D) D.shards
def cntT (D : ED) (t : Nat) : Nat := sumN (fun i => one (D.spine (D.B + 1 + t) i).isSome) (D.L.length / 2 ^ D.B / 2 ^ (t + 1))
def cntS (D : ED) : Nat := sumN (cntT D) 64
def cnt (D : ED) : Nat := cntR D + cntS D
def ED.most (D : ED) : Nat := D.L.length + D.L.length / 2 ^ D.B
theorem shard_in (D : ED) {j : Nat} : j < D.shards ↔ j * D.size < D.L.length := by
  have hp := D.size_pos
  unfold ED.shards
  rw [Nat.lt_iff_add_one_le, Nat.le_div_iff_mul_le hp, Nat.add_mul]
  omega
theorem sum_segs (s n : Nat) : ∀ m, sumN (fun j => min s (n - j * s)) m ≤ min (m * s) n
  | 0 => by simp [sumN]
  | m + 1 => by
    have := sum_segs s n m
    simp only [sumN]
    rw [Nat.add_mul]
    omega
theorem cntR_le (D : ED) : cntR D ≤ D.L.length := by
  have h1 : cntR D ≤ sumN (fun j => min D.size (D.L.length - j * D.size)) D.shards := sumN_le _ fun j _ => by
    unfold rcost
    split
    · omega
    · have := costOf_le (D.shard j).length
      unfold ED.shard at this ⊢
      rw [seg_len] at this ⊢
      exact this
  have := sum_segs D.size D.L.length D.shards
  omega
theorem cntS_le (D : ED) : cntS D ≤ D.L.length / 2 ^ D.B := by
  have h1 : cntS D ≤ sumN (fun t => D.L.length / 2 ^ D.B / 2 ^ (t + 1)) 64 := sumN_le _ fun t _ => sumN_one _ (fun k => one_le _) _
  have h2 := sum_halves (D.L.length / 2 ^ D.B) 64
  have h3 := Nat.le_trans (Nat.le_add_right _ _) h2
  exact Nat.le_trans h1 h3
theorem cnt_le (D : ED) : cnt D ≤ D.most := Nat.add_le_add (cntR_le D) (cntS_le D)
/-- a shard hashed -/
theorem cnt_cleaned (D : ED) {j : Nat} (hj : j * D.size < D.L.length) (hd : D.dirty j = true) (g : List (List ByteArray)) (c : Nat) : cnt (D.cleaned j g c) = cnt D + costOf (D.shard j).length := by
  have h1 := sumN_swap (f := rcost (D.cleaned j g c)) (g := rcost D) (j := j) D.shards ((shard_in D).2 hj) (fun q _ hq => by
    unfold rcost
    have e : (D.cleaned j g c).dirty q = D.dirty q := if_neg hq
    rw [e]; rfl)
  have e1 : rcost (D.cleaned j g c) j = costOf (D.shard j).length := by
    unfold rcost
    have e : (D.cleaned j g c).dirty j = false := if_pos rfl
    rw [e]; rfl
  have e2 : rcost D j = 0 := by unfold rcost; rw [hd]; rfl
  have h2 : cntR (D.cleaned j g c) = cntR D + costOf (D.shard j).length := by
    unfold cntR
    have hs : (D.cleaned j g c).shards = D.shards := rfl
    rw [hs]
    omega
  unfold cnt
  rw [h2]
  have : cntS (D.cleaned j g c) = cntS D := rfl
  omega
def ED.spined (D : ED) (l i : Nat) (h : ByteArray) : ED := { D with spine := fun m k => if m = l ∧ k = i then some h else D.spine m k, nodes := D.nodes + 1 }
theorem cnt_spined (D : ED) {l i : Nat} (hl : D.B < l) (hl2 : l ≤ 62) (hi : (i + 1) * 2 ^ l ≤ D.L.length) (hn : D.spine l i = none) (h : ByteArray) : cnt (D.spined l i h) = cnt D + 1 := by
  obtain ⟨t, ht⟩ : ∃ t, l = D.B + 1 + t := ⟨l - D.B - 1, by omega⟩
  have hin : i < D.L.length / 2 ^ D.B / 2 ^ (t + 1) := by
    rw [Nat.div_div_eq_div_mul, ← Nat.pow_add, Nat.lt_iff_add_one_le, Nat.le_div_iff_mul_le (Nat.two_pow_pos _), show D.B + (t + 1) = l by omega]
    exact hi
  have hoth : ∀ m k, ¬ (m = l ∧ k = i) → (D.spined l i h).spine m k = D.spine m k := fun m k hh => if_neg hh
  have hsame : (D.spined l i h).spine l i = some h := if_pos ⟨rfl, rfl⟩
  have h1 : cntT (D.spined l i h) t = cntT D t + 1 := by
    have := sumN_swap (f := fun k => one ((D.spined l i h).spine (D.B + 1 + t) k).isSome) (g := fun k => one (D.spine (D.B + 1 + t) k).isSome) (j := i) (D.L.length / 2 ^ D.B / 2 ^ (t + 1)) hin (fun k _ hk => by
      simp only [hoth _ k (fun e => hk e.2)])
    simp only [← ht, hsame, hn] at this
    unfold cntT
    rw [← ht]
    have e1 : one (some h).isSome = 1 := rfl
    have e2 : one (none : Option ByteArray).isSome = 0 := rfl
    rw [e1, e2] at this
    have hB : (D.spined l i h).B = D.B := rfl
    have hL : (D.spined l i h).L = D.L := rfl
    rw [hB, hL, ← ht]
    omega
  have h2 := sumN_swap (f := cntT (D.spined l i h)) (g := cntT D) (j := t) 64 (by omega) (fun q _ hq => by
    unfold cntT
    apply sumN_congr
    intro k _
    have hB : (D.spined l i h).B = D.B := rfl
    rw [hB, hoth _ k (fun e => hq (by omega))])
  have h3 : cntS (D.spined l i h) = cntS D + 1 := by
    unfold cntS
    omega
  unfold cnt
  have : cntR (D.spined l i h) = cntR D := rfl
  omega
def Has (D : ED) (l i : Nat) : Prop := if l ≤ D.B then D.dirty (i / 2 ^ (D.B - l)) = false else (D.spine l i).isSome
end
end Go.Proofs.YtblkehdpenfhjaaGreatDoor
/-
  Package shard: node.
-/
set_option linter.unusedVariables false
set_option linter.unusedSimpArgs false
namespace Go.Proofs.YtblkehdpenfhjaaGreatDoor
open Go.RowKit Go.Maps Go.ChangeMaps Go.MapKept

section
variable {w w' : World} {a : EA} {D : ED} {X Y : Nat → Prop} {lv : Value} {rv : Nat → Option Value} {sf : Lit → Option Value} {ns : Nat}
/-- what a call of node leaves -/
structure NodeLeft (w w' : World) (a : EA) (D D' : ED) (X : Nat → Prop) (l i : Nat) : Prop where
  eng : EngAt w' a D' X
  like : Like D D'
  good : Good D'
  has : Has D' l i
  cnt : D'.nodes + cnt D = D.nodes + cnt D'
  same : Has D l i → D'.nodes = D.nodes
  turn : Turn a.own w w'
  above : ∀ m k, l < m → D'.spine m k = D.spine m k
theorem Good.cleaned (h : Good D) (j : Nat) {g : List (List ByteArray)} (hg : RowsOk D.W (D.shard j) g) (c : Nat) : Good (D.cleaned j g c) := by
  refine ⟨fun q hq hd => ?_, fun l i x hx => h.spine l i x hx⟩
  by_cases hqj : q = j
  · subst hqj
    exact ⟨g, if_pos rfl, hg⟩
  · have e : (D.cleaned j g c).dirty q = D.dirty q := if_neg hqj
    rw [e] at hd
    obtain ⟨g', h1, h2⟩ := h.rows q hq hd
    exact ⟨g', (if_neg hqj : (D.cleaned j g c).rows q = D.rows q).trans h1, h2⟩
/-- rehash, both ways -/
theorem rehash_calls (h : EngAt w a D X) (hG : Glob w) (hg : Good D) (j : Nat) (hj : j ≤ 68719476736) (hin : j * D.size < D.L.length) (hXn : ∀ b, w.heap.size ≤ b → X b) (hno : D.nodes + D.most ≤ 1152921504606846976 + cnt D) :
    Calls Tryz.prog 87 #[.pointer (some ⟨a.eb, 0, none⟩), .int .i64 j] w fun r w' => r = .returned (.tuple #[]) ∧ ∃ D', EngAt w' a D' X ∧ Like D D' ∧ Good D' ∧ D'.dirty j = false ∧ (∀ q, D.dirty q = false → D'.dirty q = false) ∧ (∀ m k, D'.spine m k = D.spine m k) ∧
      D'.nodes + cnt D = D.nodes + cnt D' ∧ (D.dirty j = false → D'.nodes = D.nodes) ∧ Turn a.own w w' := by
  obtain ⟨lv, rv, sf, ns, h⟩ := h
  cases hd : D.dirty j with
  | false =>
    refine (rehash_no h j hj hd).mono ?_
    rintro r w' ⟨rfl, rfl⟩
    exact ⟨rfl, D, ⟨lv, rv, sf, ns, h⟩, Like.refl D, hg, hd, fun _ h => h, fun _ _ => rfl, rfl, fun _ => rfl, Turn.refl _ _⟩
  | true =>
    have hcl := cnt_cleaned D hin hd [] 0
    have hcm := cnt_le (D.cleaned j [] 0)
    have hmo : (D.cleaned j [] 0).most = D.most := rfl
    refine (rehash_yes h hG j hj hXn (by omega) hd).mono ?_
    rintro r w' ⟨rfl, g, rv2, hr, hE, hT⟩
    refine ⟨rfl, _, ⟨lv, rv2, sf, ns, hE⟩, ⟨rfl, rfl, rfl, rfl, rfl, rfl⟩, hg.cleaned j hr _, if_pos rfl, fun q hq => ?_, fun _ _ => rfl, ?_, fun e => absurd e (by simp), hT⟩
    · show (if q = j then false else D.dirty q) = false
      split
      · rfl
      · exact hq
    · rw [cnt_cleaned D hin hd g _]
      show D.nodes + costOf (D.shard j).length + cnt D = _
      omega
theorem Like.most {D D' : ED} (h : Like D D') : D'.most = D.most := by unfold ED.most; rw [h.L, h.B]
/-- the cell of a node within a shard's rows -/
theorem EngIn.rowCell (h : EngIn w a D X lv rv sf ns) (hg : Good D) {l i : Nat} (hl : l ≤ D.B) (hi : (i + 1) * 2 ^ l ≤ D.L.length) (hd : D.dirty (i / 2 ^ (D.B - l)) = false) :
    ∃ A k c, rv (i / 2 ^ (D.B - l)) = some (.slice A k c) ∧ l < k ∧ k ≤ 1099511627776 ∧ ∃ b o, A = some ⟨b, o, none⟩ ∧ ∃ b2 o2 n2 c2, w.cell? ⟨b, o + l, none⟩ = some (.slice (some ⟨b2, o2, none⟩) n2 c2) ∧ n2 ≤ 1099511627776 ∧
      i - i / 2 ^ (D.B - l) * 2 ^ (D.B - l) < n2 ∧ w.cell? ⟨b2, o2 + (i - i / 2 ^ (D.B - l) * 2 ^ (D.B - l)), none⟩ = some (.string (nodeF D.W D.L l i)) := by
  have hpow : 2 ^ D.B = 2 ^ (D.B - l) * 2 ^ l := by rw [← Nat.pow_add]; congr 1; omega
  obtain ⟨p, hp⟩ : ∃ p, p = 2 ^ (D.B - l) := ⟨_, rfl⟩
  obtain ⟨q, hq⟩ : ∃ q, q = i / p := ⟨_, rfl⟩
  have hpp : 0 < p := by rw [hp]; exact Nat.two_pow_pos _
  have hle : q * p ≤ i := by rw [hq]; exact Nat.div_mul_le_self i p
  have hlt : i < (q + 1) * p := by rw [hq, Nat.mul_comm]; exact Nat.lt_mul_div_succ i hpp
  rw [← hp] at hd ⊢
  rw [← hq] at hd ⊢
  have hsz : D.size = p * 2 ^ l := by unfold ED.size; rw [hpow, hp]
  obtain ⟨idx, hidx⟩ : ∃ x, x = i - q * p := ⟨_, rfl⟩
  have hii : i = q * p + idx := by omega
  have hip : idx < p := by rw [Nat.add_mul] at hlt; omega
  rw [← hidx]
  have hpl : 0 < 2 ^ l := Nat.two_pow_pos l
  have hjs : q * D.size = q * p * 2 ^ l := by rw [hsz, Nat.mul_assoc]
  have hin : q * D.size < D.L.length := by
    rw [hjs]
    have : (q * p) * 2 ^ l ≤ i * 2 ^ l := Nat.mul_le_mul_right _ hle
    rw [Nat.add_mul] at hi
    omega
  have hsl : (idx + 1) * 2 ^ l ≤ (D.shard q).length := by
    unfold ED.shard
    rw [seg_len, hjs]
    have h1 : (idx + 1) * 2 ^ l ≤ p * 2 ^ l := Nat.mul_le_mul_right _ hip
    rw [← hsz] at h1
    have h2 : (idx + 1) * 2 ^ l + q * p * 2 ^ l = (i + 1) * 2 ^ l := by rw [← Nat.add_mul]; congr 1; omega
    omega
  obtain ⟨g, hgr, K, rfl, hK, hK10⟩ := hg.rows q hin hd
  have hgo := h.grid q
  rw [hgr] at hgo
  cases hrv : rv q with
  | none => rw [hrv] at hgo; exact hgo.elim
  | some v =>
    rw [hrv] at hgo
    obtain ⟨vs, h1, h2, h3⟩ := (hgo : GridIn w v _ X)
    have hvl : vs.length = K + 1 := by rw [h2]; simp
    have hlK : l ≤ K := by
      by_cases hh : l ≤ K
      · exact hh
      · exfalso
        have e1 : 1 ≤ (D.shard q).length / 2 ^ l := (Nat.le_div_iff_mul_le hpl).2 (Nat.le_trans (Nat.mul_le_mul_right _ (by omega)) hsl)
        have e2 : (D.shard q).length / 2 ^ l = (D.shard q).length / 2 ^ K / 2 ^ (l - K) := by rw [Nat.div_div_eq_div_mul, ← Nat.pow_add]; congr 2; omega
        have e3 : 2 ≤ 2 ^ (l - K) := by
          have : 2 ^ 1 ≤ 2 ^ (l - K) := Nat.pow_le_pow_right (by decide) (by omega)
          simpa using this
        rw [e2] at e1
        have e4 : (D.shard q).length / 2 ^ K / 2 ^ (l - K) = 0 := Nat.div_eq_of_lt (by omega)
        omega
    obtain ⟨A, cap, rfl, hcap, hcl⟩ := h1
    obtain ⟨b, o, rfl, hb, hX1, hc⟩ := hcl (by omega)
    have h4 := h3 l (by omega) (by simp; omega)
    rw [List.getElem_map, List.getElem_range] at h4
    obtain ⟨A2, c2, e2, hc2, hcl2⟩ := h4
    have hll : (lvl D.W ((D.shard q).map (leafH D.W)) l).length = (D.shard q).length / 2 ^ l := by rw [lvl_len, List.length_map]
    have hil : idx < (D.shard q).length / 2 ^ l := by rw [Nat.lt_iff_add_one_le, Nat.le_div_iff_mul_le hpl]; exact hsl
    have hlm : ((lvl D.W ((D.shard q).map (leafH D.W)) l).map Value.string).length = (D.shard q).length / 2 ^ l := by rw [List.length_map, hll]
    obtain ⟨b2, o2, rfl, hb2, hX2, hcc⟩ := hcl2 (by rw [hlm]; omega)
    have hcell := hcc idx (by rw [hlm]; exact hil)
    rw [hlm] at e2
    rw [List.getElem_map] at hcell
    have hat := lvl_at D.W (D.shard q) l idx hsl
    rw [List.getElem?_eq_getElem (by rw [hll]; exact hil)] at hat
    injection hat with hat
    rw [hat] at hcell
    have hshl : (D.shard q).length ≤ 1024 := by unfold ED.shard; rw [seg_len]; have := h.ok.size_le; omega
    refine ⟨_, _, _, rfl, by omega, ?_, b, o, rfl, b2, o2, _, c2, (hc l (by omega)).trans (congrArg some e2), ?_, ?_, ?_⟩
    · rw [hvl]
      omega
    · exact Nat.le_trans (Nat.div_le_self _ _) (by omega)
    · exact hil
    · rw [hcell]
      congr 2
      unfold ED.shard
      rw [hjs, nodeF_seg D.W D.L D.size l (q * p) idx (by rw [hsz]; exact Nat.mul_le_mul_right _ hip), ← hii]
set_option maxHeartbeats 8000000 in
set_option maxRecDepth 100000 in
theorem node_low (h : EngAt w a D X) (hG : Glob w) (hg : Good D) (hXn : ∀ b, w.heap.size ≤ b → X b) (hno : D.nodes + D.most ≤ 1152921504606846976 + cnt D) (l i : Nat) (hl : l ≤ D.B) (hi : (i + 1) * 2 ^ l ≤ D.L.length) :
    Calls Tryz.prog 60 #[.pointer (some ⟨a.eb, 0, none⟩), plV l i] w fun r w' => r = .returned (.string (nodeF D.W D.L l i)) ∧ ∃ D', NodeLeft w w' a D D' X l i := by
  have hB := h.ok.B
  have hlen := h.ok.len
  obtain ⟨ab, hab⟩ : ∃ x, x = D.B - l := ⟨_, rfl⟩
  obtain ⟨q, hq⟩ : ∃ x, x = i / 2 ^ ab := ⟨_, rfl⟩
  obtain ⟨w0, hw0⟩ : ∃ w0, w0 = w.alloc (.cells #[.int .i64 (l : Int), .int .i64 (i : Int)] 42) := ⟨_, rfl⟩
  have hbx : w0.heap[w.heap.size]? = some (.cells #[.int .i64 (l : Int), .int .i64 (i : Int)] 42 (0, 0)) := by rw [hw0]; exact (MapKept.heap_alloc w _).1
  have hb0 : Below w.heap.size w w0 := by rw [hw0]; exact (Below.refl _ _).alloc (Nat.le_refl _) _
  have d0 := cell_of_block (off := 0) hbx (by show 0 < 2; decide)
  have d1 := cell_of_block (off := 1) hbx (by show 1 < 2; decide)
  have hi0 : i < 68719476736 := by have := Nat.one_le_two_pow (n := l); have := Nat.mul_le_mul_left (i + 1) this; omega
  have hqi : q ≤ i := by rw [hq]; exact Nat.div_le_self _ _
  have hqin : q * D.size < D.L.length := by
    have e : D.size = 2 ^ ab * 2 ^ l := by unfold ED.size; rw [← Nat.pow_add]; congr 1; omega
    have h1 : q * 2 ^ ab ≤ i := by rw [hq]; exact Nat.div_mul_le_self _ _
    have h2 := Nat.mul_le_mul_right (2 ^ l) h1
    have h3 := Nat.two_pow_pos l
    rw [e, ← Nat.mul_assoc]
    rw [Nat.add_mul] at hi
    omega
  have HRH := Lib.hid fun n => rehash_calls (w := w0.drewN n) ((h.below hb0).keep (Nat.le_refl _) fun _ _ _ => rfl) ((hG.keep hb0).keep (below_drewN (Below.refl _ _) n)) hg q (by omega) hqin (fun b hb => hXn b (by have := hb0.size; have : w0.heap.size ≤ b := hb; omega)) hno
  have HQ := Lib.hid hq
  have HOWN := Lib.hid (fun b hb => h.low (b := b) hb)
  have hE := h
  obtain ⟨nv, hnv⟩ : ∃ x, x = nodeF D.W D.L l i := ⟨_, rfl⟩
  rw [← hnv]
  have HNV := Lib.hid hnv
  clear hnv
  obtain ⟨lv, rv, sf, ns, hE⟩ := hE
  have hlt := hE.low (b := a.eb) (.inl rfl)
  have c8 : w0.cell? ⟨a.eb, 8, none⟩ = some (.int .i64 (D.B : Int)) := (hb0.cell (p := ⟨a.eb, 8, none⟩) hlt).trans hE.c8
  obtain ⟨eb, heb⟩ : ∃ x, x = a.eb := ⟨_, rfl⟩
  have HEB := Lib.hid heb
  rw [← heb] at HRH c8 ⊢
  obtain ⟨B, hBB⟩ : ∃ x, x = D.B := ⟨_, rfl⟩
  rw [← hBB] at c8 hl hB hab
  have HBB := Lib.hid hBB
  have hsub : (B : Int) - (l : Int) = (ab : Int) := by omega
  have hab2 : (ab : Int) ≤ 64 := by omega
  have hshr : (i : Int) / 2 ^ ab = (q : Int) := by rw [hq]; simp
  obtain ⟨A, hA⟩ : ∃ x, x = q * 2 ^ ab := ⟨_, rfl⟩
  have hshl : (q : Int) * 2 ^ ab = (A : Int) := by rw [hA]; simp
  have hAi : A ≤ i := by rw [hA, hq]; exact Nat.div_mul_le_self _ _
  obtain ⟨ix, hid⟩ : ∃ x, x = i - A := ⟨_, rfl⟩
  have hsub2 : (i : Int) - (A : Int) = (ix : Int) := by omega
  have HA := Lib.hid hA
  have HID := Lib.hid hid
  have HAB := Lib.hid hab
  have HBX := Lib.hid hbx
  have HB0 := Lib.hid hb0
  have HG := Lib.hid hG
  have HI := Lib.hid hi
  have HL := Lib.hid hl
  have hll : decide ((l : Int) ≤ (B : Int)) = true := decide_eq_true (by omega)
  have hll2 : decide (l ≤ B) = true := decide_eq_true hl
  clear h hG hg hXn hno hi hqin hE hlt heb hBB hbx hb0 hA hid hq hab
  unfold plV
  go_enter Tryz.func60, Tryz.ntmps60
  go_upto_region 1 with (fail)
  rw [← hw0]
  clear hw0
  go_quiet (fail)
  go_wp2_with fail
  obtain ⟨nq1, hnq1⟩ : ∃ x, x = nq := ⟨_, rfl⟩
  rw [← hnq1]
  clear hnq1
  go_quiet (fail)
  go_wp2_with fail
  refine (HRH.out _).mono ?_
  rintro r w1 ⟨rfl, D', hE1, hlk, hgd, hd1, hmono, hsp, hcn, hsm, hT⟩
  have HLK := Lib.hid hlk
  have hbx1 : w1.heap[w.heap.size]? = some (.cells #[.int .i64 (l : Int), .int .i64 (i : Int)] 42 (0, 0)) := (hT.block _ (block_lt HBX.out) (fun ho => Nat.lt_irrefl _ (HOWN.out _ ho))).trans HBX.out
  have e0 := cell_of_block (off := 0) hbx1 (by show 0 < 2; decide)
  have e1 := cell_of_block (off := 1) hbx1 (by show 1 < 2; decide)
  have hdD : D'.dirty (i / 2 ^ (D'.B - l)) = false := by rw [hlk.B, ← HBB.out, ← HAB.out, ← HQ.out]; exact hd1
  obtain ⟨lv1, rv1, sf1, ns1, hE2⟩ := _root_.id hE1
  obtain ⟨A1, k1, cp1, hrv, hlk1, hk1, b, o, rfl, b2, o2, n2, c2, hc1, hn2, hidn, hc2⟩ := hE2.rowCell (l := l) (i := i) hgd (by rw [hlk.B, ← HBB.out]; exact HL.out) (by rw [hlk.L]; exact HI.out) hdD
  rw [hlk.B, ← HBB.out, ← HAB.out, ← HQ.out] at hrv hidn hc2
  rw [← HA.out, ← HID.out] at hidn hc2
  rw [hlk.W, hlk.L] at hc2
  have c11 : w1.cell? ⟨eb, 11, none⟩ = some (.map (some a.rb)) := by rw [HEB.out]; exact hE2.c11
  have hlook : ∀ n, (Instr.lookup 84 (.map (some a.rb)) (.int .i64 (q : Int)) false).run Tryz.prog (w1.drewN n) = .ok (.slice (some ⟨b, o, none⟩) k1 cp1) (w1.drewN n) := fun n => by
    have := (hE2.rowsM.keep (w' := w1.drewN n) rfl).look Tryz.underlying3 Tryz.underlying84 (Tryz.zeroValue22 (w1.drewN n)) (j := q) (by unfold big; omega)
    rw [hrv] at this
    exact this
  obtain ⟨rb, hrb⟩ : ∃ x, x = a.rb := ⟨_, rfl⟩
  rw [← hrb] at c11 hlook
  rw [← HNV.out] at hc2
  have HFIN := Lib.hid (show ∀ n, NodeLeft w (w1.drewN n) a D D' X l i from fun n => ⟨hE1.keep (Nat.le_refl _) fun _ _ _ => rfl, hlk, hgd, by unfold Has; rw [if_pos (by rw [hlk.B, ← HBB.out]; exact HL.out)]; exact hdD, hcn, fun hh => hsm (by
      unfold Has at hh
      rw [if_pos (by rw [← HBB.out]; exact HL.out), ← HBB.out, ← HAB.out, ← HQ.out] at hh
      exact hh), (((Turn.of_below HB0.out).drewN (nq1 + nq)).trans (hT.drewN n)), fun m k _ => hsp m k⟩)
  have hkk : decide (l < k1) = true := decide_eq_true hlk1
  clear hbx1 hdD hE2 hrv hE1 hlk hgd hd1 hmono hsp hcn hsm hT hrb
  go_wp2_with fail
  go_quiet (fail)
  go_wp2
  go_ret
  exact ⟨rfl, D', HFIN.out _⟩
theorem EngIn.spined {w6 : World} {ns' : Nat} (h : EngIn w a D X lv rv sf ns) (l i : Nat) (hl : l < 9223372036854775808) (hi : i < 9223372036854775808) (x : ByteArray) (hb : w6.heap[a.eb]? = some (.cells (engC a { D with nodes := D.nodes + 1 } lv) 88 (0, 0)))
    (hM : MapF Tryz.prog 42 w6 a.pb (updF sf (litA l i) (some (.string x))) ns') (hns : ns' ≤ ns + 1) (ht : Turn (fun b => b = a.eb ∨ b = a.pb) w w6) (hno : D.nodes + 1 ≤ 1152921504606846976) :
    EngIn w6 a (D.spined l i x) X lv rv (updF sf (litA l i) (some (.string x))) ns' ∧ Turn a.own w w6 := by
  have hT : Turn a.own w w6 := ht.mono fun b hb => .inl (hb.elim .inl (fun e => .inr (.inr (.inr (.inr e)))))
  refine ⟨⟨hb, h.rowsM.keep (ht.block _ h.rowsM.lt (fun e => e.elim (fun e => h.ne1 e.symm) (fun e => h.ap3 e))), h.dirtyM.keep (ht.block _ h.dirtyM.lt (fun e => e.elim (fun e => h.ne2 e.symm) (fun e => h.ap5 e))),
    h.unwrM.keep (ht.block _ h.unwrM.lt (fun e => e.elim (fun e => h.ne3 e.symm) (fun e => h.ap6 e))), hM, h.list.keep ht.size fun b hb hX => hT.block b hb (h.apX b hX), fun j => (h.grid j).keep ht.size fun b hb hX => hT.block b hb (h.apX b hX),
    fun m k hm hk => ?_, ?_, h.ap1, h.ap2, h.ap3, h.ap4, h.ap5, h.ap6, h.apX, ⟨h.ok.W1, h.ok.W2, h.ok.B, h.ok.space, h.ok.age, h.ok.small, h.ok.len, hno⟩, h.glb, h.nl⟩, hT⟩
  · show updF sf (litA l i) (some (.string x)) (litA m k) = (if m = l ∧ k = i then some x else D.spine m k).map Value.string
    by_cases he : m = l ∧ k = i
    · rw [if_pos he, he.1, he.2, updF_same]; rfl
    · rw [if_neg he, updF_other _ _ (fun e => he (litA_inj hm hk hl hi e)), h.spv m k hm hk]
  · have := h.nsle
    show ns' ≤ D.nodes + 1 + 1
    omega
theorem Good.spined (h : Good D) {l i : Nat} (hl : D.B < l) (hl2 : l ≤ 62) (hi : (i + 1) * 2 ^ l ≤ D.L.length) : Good (D.spined l i (nodeF D.W D.L l i)) := by
  refine ⟨h.rows, fun m k x hx => ?_⟩
  by_cases he : m = l ∧ k = i
  · have e : (D.spined l i (nodeF D.W D.L l i)).spine m k = some (nodeF D.W D.L l i) := if_pos he
    rw [e] at hx
    injection hx with hx
    rw [he.1, he.2]
    exact ⟨hl, hl2, hi, hx.symm⟩
  · have e : (D.spined l i (nodeF D.W D.L l i)).spine m k = D.spine m k := if_neg he
    rw [e] at hx
    exact h.spine m k x hx
set_option maxHeartbeats 16000000 in
set_option maxRecDepth 100000 in
theorem node_calls' : ∀ (l : Nat) (w : World) (D : ED) (i : Nat) (h : EngAt w a D X) (hG : Glob w) (hg : Good D) (hXn : ∀ b, w.heap.size ≤ b → X b) (hno : D.nodes + D.most ≤ 1152921504606846976 + cnt D) (hi : (i + 1) * 2 ^ l ≤ D.L.length),
    Calls Tryz.prog 60 #[.pointer (some ⟨a.eb, 0, none⟩), plV l i] w fun r w' => r = .returned (.string (nodeF D.W D.L l i)) ∧ ∃ D', NodeLeft w w' a D D' X l i
  | 0, w, D, i, h, hG, hg, hXn, hno, hi => node_low h hG hg hXn hno 0 i (Nat.zero_le _) hi
  | m + 1, w, D, i, h, hG, hg, hXn, hno, hi => by
    by_cases hl : m + 1 ≤ D.B
    · exact node_low h hG hg hXn hno (m + 1) i hl hi
    have IH := Lib.hid (node_calls' m)
    have hB := h.ok.B
    have hlen := h.ok.len
    have hi0 : i < 68719476736 := by have := Nat.one_le_two_pow (n := m + 1); have := Nat.mul_le_mul_left (i + 1) this; omega
    have hm36 : m + 1 ≤ 36 := by
      by_cases hh : m + 1 ≤ 36
      · exact hh
      · have h1 : 2 ^ 37 ≤ 2 ^ (m + 1) := Nat.pow_le_pow_right (by decide) (by omega)
        have h2 : 1 * 2 ^ (m + 1) ≤ (i + 1) * 2 ^ (m + 1) := Nat.mul_le_mul_right _ (by omega)
        omega
    have hpl : PlOk (m + 1) i := ⟨by omega, by omega⟩
    have hkid2 : (2 * i + 1 + 1) * 2 ^ m ≤ D.L.length := by
      rw [Nat.pow_succ] at hi
      calc _ = (i + 1) * (2 ^ m * 2) := by rw [show 2 * i + 1 + 1 = (i + 1) * 2 by omega, Nat.mul_assoc, Nat.mul_comm 2]
        _ ≤ _ := hi
    have hkid1 : (2 * i + 1) * 2 ^ m ≤ D.L.length := Nat.le_trans (Nat.mul_le_mul_right _ (by omega)) hkid2
    obtain ⟨w0, hw0⟩ : ∃ w0, w0 = w.alloc (.cells #[.int .i64 ((m + 1 : Nat) : Int), .int .i64 (i : Int)] 42) := ⟨_, rfl⟩
    have hbx : w0.heap[w.heap.size]? = some (.cells #[.int .i64 ((m + 1 : Nat) : Int), .int .i64 (i : Int)] 42 (0, 0)) := by rw [hw0]; exact (MapKept.heap_alloc w _).1
    have hb0 : Below w.heap.size w w0 := by rw [hw0]; exact (Below.refl _ _).alloc (Nat.le_refl _) _
    have HLF := Lib.hid fun w => left_calls m i hpl w
    have HRG := Lib.hid fun w => right_calls m i hpl w
    obtain ⟨i2, hi2⟩ : ∃ x, x = 2 * i := ⟨_, rfl⟩
    obtain ⟨i3, hi3⟩ : ∃ x, x = 2 * i + 1 := ⟨_, rfl⟩
    rw [← hi2] at HLF
    rw [← hi3] at HRG hkid1 hkid2
    have hN : nodeF D.W D.L (m + 1) i = nodeH D.W (nodeF D.W D.L m (2 * i)) (nodeF D.W D.L m (2 * i + 1)) := rfl
    rw [← hi3, ← hi2] at hN
    have hkid3 : (i2 + 1) * 2 ^ m ≤ D.L.length := by rw [show i2 + 1 = i3 by omega]; exact hkid1
    obtain ⟨x1, hx1⟩ : ∃ x, x = nodeF D.W D.L m i2 := ⟨_, rfl⟩
    obtain ⟨x2, hx2⟩ : ∃ x, x = nodeF D.W D.L m i3 := ⟨_, rfl⟩
    obtain ⟨nv, hnv⟩ : ∃ x, x = nodeF D.W D.L (m + 1) i := ⟨_, rfl⟩
    rw [← hx1, ← hx2, ← hnv] at hN
    have hs1 : x1.size ≤ 32 := by rw [hx1]; exact nodeF_size _ _ _ _
    have hs2 : x2.size ≤ 32 := by rw [hx2]; exact nodeF_size _ _ _ _
    obtain ⟨l, hll⟩ : ∃ l, l = m + 1 := ⟨_, rfl⟩
    rw [← hnv]
    rw [← hll] at hbx hw0 hl hpl HLF HRG hm36 hi hnv ⊢
    obtain ⟨lv, rv, sf, ns, hE⟩ := _root_.id h
    have hlt := hE.low (b := a.eb) (.inl rfl)
    have HOWN := Lib.hid (fun b hb => h.low (b := b) hb)
    have c8 : w0.cell? ⟨a.eb, 8, none⟩ = some (.int .i64 (D.B : Int)) := (hb0.cell (p := ⟨a.eb, 8, none⟩) hlt).trans hE.c8
    have c14 : w0.cell? ⟨a.eb, 14, none⟩ = some (.map (some a.pb)) := (hb0.cell (p := ⟨a.eb, 14, none⟩) hlt).trans hE.c14
    have hlook : ∀ n, (Instr.lookup 86 (.map (some a.pb)) (.agg #[.int .i64 (l : Int), .int .i64 (i : Int)]) true).run Tryz.prog (w0.drewN n) = .ok (.tuple #[((D.spine l i).map Value.string).getD (.string ⟨#[]⟩), .bool ((D.spine l i).map Value.string).isSome]) (w0.drewN n) := fun n => by
      have := ((hE.spineM.keep (w' := w0.drewN n) (hb0.block _ hE.spineM.lt))).look keyedA Tryz.underlying86 (Tryz.zeroValue9 (w0.drewN n)) (key_A l i (by omega) (by omega))
      rw [hE.spv l i (by omega) (by omega)] at this
      exact this
    obtain ⟨eb, heb⟩ : ∃ x, x = a.eb := ⟨_, rfl⟩
    obtain ⟨pb, hpb⟩ : ∃ x, x = a.pb := ⟨_, rfl⟩
    have HEB := Lib.hid heb
    have HPB := Lib.hid hpb
    rw [← heb] at c8 c14 ⊢
    rw [← hpb] at c14 hlook
    obtain ⟨B, hBB⟩ : ∃ x, x = D.B := ⟨_, rfl⟩
    rw [← hBB] at c8 hl hB
    have HBB := Lib.hid hBB
    have HBX := Lib.hid hbx
    have HB0 := Lib.hid hb0
    have d0 := cell_of_block (off := 0) hbx (by show 0 < 2; decide)
    have d1 := cell_of_block (off := 1) hbx (by show 1 < 2; decide)
    have hld : decide ((l : Int) ≤ (B : Int)) = false := decide_eq_false (by omega)
    have hld2 : decide (l ≤ B) = false := decide_eq_false hl
    have HX := Lib.hid (And.intro hx1 (And.intro hx2 (And.intro hnv hN)))
    have HS := Lib.hid (And.intro hs1 hs2)
    have HH := Lib.hid (And.intro h (And.intro hG (And.intro hg (And.intro hXn hno))))
    have HI := Lib.hid (And.intro hi (And.intro hkid3 hkid2))
    have HLL := Lib.hid hll
    have HLB := Lib.hid hl
    clear h hG hg hXn hno hi hE hlt heb hpb hBB hbx hb0 hx1 hx2 hnv hN hs1 hs2 hkid1 hkid2 hkid3 hi2 hi3 hll hpl
    unfold plV
    cases hsp : D.spine l i with
    | some x =>
      rw [hsp] at hlook
      simp only [Option.map_some, Option.getD_some, Option.isSome_some] at hlook
      have HFIN := Lib.hid (show x = nv ∧ ∀ n, NodeLeft w (w0.drewN n) a D D X l i from by
        refine ⟨(HH.out.2.2.1.spine l i x hsp).2.2.2.trans HX.out.2.2.1.symm, fun n => ⟨(HH.out.1.below HB0.out).keep (Nat.le_refl _) fun _ _ _ => rfl, Like.refl D, HH.out.2.2.1, ?_, rfl, fun _ => rfl, (Turn.of_below HB0.out).drewN n, fun _ _ _ => rfl⟩⟩
        unfold Has
        rw [if_neg (by rw [← HBB.out]; exact HLB.out), hsp]
        rfl)
      clear hsp
      go_enter Tryz.func60, Tryz.ntmps60
      go_upto_region 1 with (fail)
      rw [← hw0]
      clear hw0
      go_quiet (fail)
      go_wp2_with fail
      obtain ⟨nq1, hnq1⟩ : ∃ x, x = nq := ⟨_, rfl⟩
      rw [← hnq1]
      clear hnq1
      go_quiet (fail)
      go_wp2
      go_ret
      exact ⟨by rw [← HFIN.out.1]; rfl, D, by rw [World.drewN_drewN]; exact HFIN.out.2 _⟩
    | none =>
      rw [hsp] at hlook
      simp only [Option.map_none, Option.getD_none, Option.isSome_none] at hlook
      have HSP := Lib.hid hsp
      clear hsp
      go_enter Tryz.func60, Tryz.ntmps60
      go_upto_region 1 with (fail)
      rw [← hw0]
      clear hw0
      go_quiet (fail)
      go_wp2_with fail
      obtain ⟨nq1, hnq1⟩ : ∃ x, x = nq := ⟨_, rfl⟩
      rw [← hnq1]
      clear hnq1
      go_quiet (fail)
      go_wp2_with fail
      refine (HLF.out _).mono ?_
      rintro r w1 ⟨rfl, hb1⟩
      have hb1' : Below w.heap.size w w1 := (below_drewN HB0.out (nq1 + nq)).trans (hb1.mono HB0.out.size)
      have hbx1 : w1.heap[w.heap.size]? = some (.cells #[.int .i64 (l : Int), .int .i64 (i : Int)] 42 (0, 0)) := (hb1.block _ (block_lt HBX.out)).trans HBX.out
      have HB1 := Lib.hid hb1'
      have HBX1 := Lib.hid hbx1
      clear hb1 hb1' hbx1 d0 d1 c8 c14 hlook
      unfold plV
      go_upto_region 10 with (fail)
      obtain ⟨w2, hw2⟩ : ∃ w2, w2 = w1.alloc (.cells #[.int .i64 (m : Int), .int .i64 (i2 : Int)] 42) := ⟨_, rfl⟩
      have hbl : w2.heap[w1.heap.size]? = some (.cells #[.int .i64 (m : Int), .int .i64 (i2 : Int)] 42 (0, 0)) := by rw [hw2]; exact (MapKept.heap_alloc w1 _).1
      have hbx2 : w2.heap[w.heap.size]? = some (.cells #[.int .i64 (l : Int), .int .i64 (i : Int)] 42 (0, 0)) := by rw [hw2]; exact heap_alloc_keep HBX1.out _
      have HB2 := Lib.hid (show Below w.heap.size w w2 by rw [hw2]; exact HB1.out.alloc HB1.out.size _)
      have hbg : w.heap.size ≤ w1.heap.size := HB1.out.size
      obtain ⟨b9, hb9⟩ : ∃ x, x = w1.heap.size := ⟨_, rfl⟩
      rw [← hw2, ← hb9]
      rw [← hb9] at hbl hbg
      have HB9 := Lib.hid hbg
      have HBL2 := Lib.hid hbl
      have HBX2 := Lib.hid hbx2
      have d0 := cell_of_block (off := 0) hbx2 (by show 0 < 2; decide)
      have d1 := cell_of_block (off := 1) hbx2 (by show 1 < 2; decide)
      clear hw2 hb9 hbl hbx2 hbg HBX1 HB1
      go_wp2_with fail
      refine (HRG.out w2).mono ?_
      rintro r w3 ⟨rfl, hb3⟩
      have HB3 := Lib.hid (HB2.out.trans (hb3.mono HB2.out.size))
      have HBL3 := Lib.hid ((hb3.block _ (block_lt HBL2.out)).trans HBL2.out)
      have HBX3 := Lib.hid ((hb3.block _ (block_lt HBX2.out)).trans HBX2.out)
      clear hb3 d0 d1 HB2 HBL2 HBX2
      unfold plV
      go_upto_region 11 with (fail)
      obtain ⟨w4, hw4⟩ : ∃ w4, w4 = w3.alloc (.cells #[.int .i64 (m : Int), .int .i64 (i3 : Int)] 42) := ⟨_, rfl⟩
      have hbr : w4.heap[w3.heap.size]? = some (.cells #[.int .i64 (m : Int), .int .i64 (i3 : Int)] 42 (0, 0)) := by rw [hw4]; exact (MapKept.heap_alloc w3 _).1
      have hbl4 : w4.heap[b9]? = some (.cells #[.int .i64 (m : Int), .int .i64 (i2 : Int)] 42 (0, 0)) := by rw [hw4]; exact heap_alloc_keep HBL3.out _
      have HBX4 := Lib.hid (show w4.heap[w.heap.size]? = some (.cells #[.int .i64 (l : Int), .int .i64 (i : Int)] 42 (0, 0)) by rw [hw4]; exact heap_alloc_keep HBX3.out _)
      have HB4 := Lib.hid (show Below w.heap.size w w4 by rw [hw4]; exact HB3.out.alloc HB3.out.size _)
      have hbg : w.heap.size ≤ w3.heap.size := HB3.out.size
      obtain ⟨b11, hb11⟩ : ∃ x, x = w3.heap.size := ⟨_, rfl⟩
      rw [← hw4, ← hb11]
      rw [← hb11] at hbr hbg
      have HB11 := Lib.hid hbg
      have HBR4 := Lib.hid hbr
      have d0 := cell_of_block (off := 0) hbl4 (by show 0 < 2; decide)
      have d1 := cell_of_block (off := 1) hbl4 (by show 1 < 2; decide)
      clear hw4 hb11 hbr hbl4 hbg HBX3 HB3 HBL3 HB9
      have HIL := Lib.hid (IH.out w4 D i2 (HH.out.1.below HB4.out) (HH.out.2.1.keep HB4.out) HH.out.2.2.1 (fun b hb => HH.out.2.2.2.1 b (Nat.le_trans HB4.out.size hb)) HH.out.2.2.2.2 HI.out.2.1)
      rw [← HX.out.1, ← HEB.out] at HIL
      unfold plV at HIL
      go_wp2_with fail
      refine (HIL.out).mono ?_
      rintro r w5 ⟨rfl, D1, hL1⟩
      have HL1 := Lib.hid hL1
      have HT5 := Lib.hid ((Turn.of_below HB4.out).trans hL1.turn)
      have hnew : ∀ b, w.heap.size ≤ b → ¬ a.own b := fun b hb ho => by have := HOWN.out b ho; omega
      have HNEW := Lib.hid hnew
      have HBX5 := Lib.hid ((hL1.turn.block _ (block_lt HBX4.out) (hnew _ (Nat.le_refl _))).trans HBX4.out)
      have HBR5 := Lib.hid ((hL1.turn.block _ (block_lt HBR4.out) (hnew _ HB11.out)).trans HBR4.out)
      obtain ⟨W, hW⟩ : ∃ x, x = D.W := ⟨_, rfl⟩
      have HW := Lib.hid hW
      have f0 := cell_of_block (off := 0) HBR5.out (by show 0 < 2; decide)
      have f1 := cell_of_block (off := 1) HBR5.out (by show 1 < 2; decide)
      have c4 : w5.cell? ⟨eb, 4, none⟩ = some (.int .i64 (W : Int)) := by
        obtain ⟨lv, rv, sf, ns, hE⟩ := hL1.eng
        rw [HEB.out, hW, ← hL1.like.W]; exact hE.c4
      have HIR := Lib.hid (IH.out w5.drew D1 i3 (hL1.eng.keep (Nat.le_refl _) fun _ _ _ => rfl) ((HH.out.2.1.turn HT5.out (fun b hb ho => by obtain ⟨lv, rv, sf, ns, hE⟩ := HH.out.1; exact hE.glb b hb ho)).keep (Below.refl _ w5).drew) hL1.good (fun b hb => HH.out.2.2.2.1 b (Nat.le_trans HT5.out.size hb)) (by
        have h1 := hL1.cnt
        have h2 := HH.out.2.2.2.2
        rw [hL1.like.most]
        omega) (by rw [hL1.like.L]; exact HI.out.2.2))
      rw [hL1.like.W, hL1.like.L, ← HX.out.2.1, ← HEB.out] at HIR
      unfold plV at HIR
      clear hL1 hnew hW d0 d1 HIL HBX4 HBR4
      go_wp2_with fail
      refine wp_region_tree (fun w' => w'.cell? ⟨eb, 4, none⟩ = some (.int .i64 (W : Int)) ∧ w'.cell? ⟨b11, 0, none⟩ = some (.int .i64 (m : Int)) ∧ w'.cell? ⟨b11, 1, none⟩ = some (.int .i64 (i3 : Int))) (.hd 0 (.hd 1 (.hd 2 (.hd 3 (.hd 4 (.hd 5 (.hd 6 (.hd 7 (.fk 8 (.fk 9 (.fk 10 .nil .no) .no) .no))))))))) (by kernel_rfl) (by kernel_rfl) (fun _ _ d _ _ h => by cases d <;> exact h) ⟨c4, f0, f1⟩ ?_
      iterate 8
        refine hdT ?_ ?_ (by rfl) (by rfl) (fun w' s1 => ?_) ?_ ?_
        rotate_left 2
        focus (obtain ⟨s1, s2, s3⟩ := s1; go_simp; exact rfl)
        focus (go_simp; exact rfl)
      refine fkT (by rfl) (by rfl) (fun K hK => ?_) noT
      go_wp2_with fail
      refine (HIR.out).mono ?_
      rintro r w6 ⟨rfl, D2, hL2⟩
      have HL2 := Lib.hid hL2
      have HT6 := Lib.hid (HT5.out.drew.trans hL2.turn)
      have c4' : w6.cell? ⟨eb, 4, none⟩ = some (.int .i64 (W : Int)) := by
        obtain ⟨lv, rv, sf, ns, hE⟩ := hL2.eng
        rw [HEB.out, HW.out, ← HL1.out.like.W, ← hL2.like.W]; exact hE.c4
      have hbr6 := (hL2.turn.block _ (block_lt HBR5.out) (HNEW.out _ HB11.out)).trans HBR5.out
      have HBX6 := Lib.hid ((hL2.turn.block _ (block_lt HBX5.out) (HNEW.out _ (Nat.le_refl _))).trans HBX5.out)
      refine hK _ _ ⟨c4', cell_of_block (off := 0) hbr6 (by show 0 < 2; decide), cell_of_block (off := 1) hbr6 (by show 1 < 2; decide)⟩ ?_
      clear hK hL2 hbr6 c4 f0 f1 c4'
      refine fkTn (by kernel_rfl) (by rfl) (by rfl) (fun K hK => ?_) noT
      go_wp2_with fail
      refine (node_calls W x1 x2 (by have := HS.out.1; omega) (by have := HS.out.2; omega) w6 (HH.out.2.1.turn HT6.out (fun b hb ho => by obtain ⟨lv, rv, sf, ns, hE⟩ := HH.out.1; exact hE.glb b hb ho))).mono ?_
      rintro r w7 ⟨rfl, hb7⟩
      refine hK _ _ ?_
      clear hK
      have HB7 := Lib.hid hb7
      clear hb7
      refine fkTn (by kernel_rfl) (by rfl) (by rfl) (fun K hK => ?_) noT
      go_wp2_with fail
      refine nilT ?_
      obtain ⟨hv, hhv⟩ : ∃ x, x = mk (hashF W (1 :: (x1.data.toList ++ x2.data.toList))) := ⟨_, rfl⟩
      have HHV := Lib.hid (show hv = nv by rw [hhv, HX.out.2.2.2, HW.out]; rfl)
      rw [← hhv]
      obtain ⟨lv6, rv6, sf6, ns6, hE6⟩ := HL2.out.eng
      have HE7 := Lib.hid (hE6.below HB7.out)
      have HBX7 := Lib.hid ((HB7.out.block _ (block_lt HBX6.out)).trans HBX6.out)
      have HT7 := Lib.hid (HT6.out.trans (Turn.of_below HB7.out))
      have hcn2 : D2.nodes + cnt D = D.nodes + cnt D2 := by have h1 := HL1.out.cnt; have h2 := HL2.out.cnt; omega
      have hlk : Like D D2 := HL1.out.like.trans HL2.out.like
      have hsp2 : D2.spine l i = none := by rw [HL2.out.above l i (by have := HLL.out; omega), HL1.out.above l i (by have := HLL.out; omega)]; exact HSP.out
      have hcs := cnt_spined D2 (l := l) (i := i) (by rw [hlk.B, ← HBB.out]; have := HLB.out; omega) (by omega) (by rw [hlk.L]; exact HI.out.1) hsp2 hv
      have hcm := cnt_le (D2.spined l i hv)
      have hmo : (D2.spined l i hv).most = D.most := hlk.most
      have hnb : D2.nodes + 1 ≤ 1152921504606846976 := by have := HH.out.2.2.2.2; omega
      have HC2 := Lib.hid (And.intro hcn2 (And.intro hcs hnb))
      have HLK := Lib.hid hlk
      clear hhv hE6 hcn2 hsp2 hcs hcm hmo hlk
      obtain ⟨N, hN⟩ : ∃ x, x = D2.nodes := ⟨_, rfl⟩
      rw [← hN] at hnb
      have c15 : w7.cell? ⟨eb, 15, none⟩ = some (.int .i64 (N : Int)) := by rw [HEB.out, hN]; exact HE7.out.c15
      have e15 : w7.frozen? ⟨eb, 15, none⟩ = false := by rw [HEB.out]; exact HE7.out.froz 15
      have hset := block_setCell (off := 15) HE7.out.blk (.int .i64 ((N + 1 : Nat) : Int))
      rw [engC_nodes, ← HEB.out] at hset
      have hN1 : ((N + 1 : Nat) : Int) = (N : Int) + 1 := by omega
      obtain ⟨w8, hw8⟩ : ∃ w8, w8 = w7.setCell ⟨eb, 15, none⟩ (.int .i64 ((N : Int) + 1)) := ⟨_, rfl⟩
      rw [hN1, ← hw8, hN] at hset
      have HSET := Lib.hid hset
      have hne : w.heap.size ≠ eb := by rw [HEB.out]; have := HOWN.out a.eb (.inl rfl); omega
      have hbx8 : w8.heap[w.heap.size]? = some (.cells #[.int .i64 (l : Int), .int .i64 (i : Int)] 42 (0, 0)) := by rw [hw8, block_other hne.symm]; exact HBX7.out
      have hT8 : Turn (fun b => b = a.eb) w7 w8 := by rw [hw8]; exact (Turn.refl _ _).setCell (p := ⟨eb, 15, none⟩) (.inl HEB.out) _
      have HT8 := Lib.hid hT8
      have hM8 : MapF Tryz.prog 42 w8.drew a.pb sf6 ns6 := HE7.out.spineM.keep (hT8.block _ HE7.out.spineM.lt (fun e => HE7.out.ne4 e.symm))
      obtain ⟨w9, hrun, hM9, hMT⟩ := hM8.store keyedA Tryz.underlying86 (by have := HE7.out.nsle; unfold maxLen; omega) (key_A l i (by omega) (by omega)) (val := .string hv)
      rw [← HPB.out] at hrun
      unfold plV at hrun
      have c14 : w8.cell? ⟨eb, 14, none⟩ = some (.map (some pb)) := by rw [HPB.out]; exact cell_of_block (off := 14) hset (by show 14 < 16; decide)
      have d0 := cell_of_block (off := 0) hbx8 (by show 0 < 2; decide)
      have d1 := cell_of_block (off := 1) hbx8 (by show 1 < 2; decide)
      have HFIN := Lib.hid (show NodeLeft w w9 a D (D2.spined l i hv) X l i from by
        have ht9 := mapTurned_turn hMT
        have hTT : Turn (fun b => b = a.eb ∨ b = a.pb) w7 w9 := ((hT8.drew.mono fun b hb => .inl (.inl hb)).trans (ht9.mono fun b hb => .inl (.inr hb)))
        have hns : grow (sf6 (litA l i)) ns6 ≤ ns6 + 1 := by unfold grow; split <;> omega
        obtain ⟨q1, q2⟩ := HE7.out.spined (w6 := w9) l i (by omega) (by omega) hv (by rw [← HEB.out]; exact (ht9.block eb (block_lt hset) (by rw [HEB.out]; exact HE7.out.ne4)).trans hset) hM9 hns hTT HC2.out.2.2
        have hg2 := HL2.out.good.spined (l := l) (i := i) (by rw [HLK.out.B, ← HBB.out]; have := HLB.out; omega) (by omega) (by rw [HLK.out.L]; exact HI.out.1)
        rw [show nodeF D2.W D2.L l i = hv by rw [HLK.out.W, HLK.out.L, HHV.out]; exact HX.out.2.2.1.symm] at hg2
        refine ⟨⟨_, _, _, _, q1⟩, ⟨HLK.out.W, HLK.out.B, HLK.out.space, HLK.out.age, HLK.out.L, HLK.out.unwr⟩, hg2, ?_, ?_, fun hh => ?_, HT7.out.trans q2, fun m' k hm => ?_⟩
        · unfold Has
          rw [if_neg (by show ¬ l ≤ D2.B; rw [HLK.out.B, ← HBB.out]; exact HLB.out)]
          show (if l = l ∧ i = i then some hv else D2.spine l i).isSome = true
          rw [if_pos ⟨rfl, rfl⟩]; rfl
        · rw [HC2.out.2.1]
          have := HC2.out.1
          show D2.nodes + 1 + cnt D = _
          omega
        · exfalso
          unfold Has at hh
          rw [if_neg (by rw [← HBB.out]; exact HLB.out), HSP.out] at hh
          cases hh
        · show (if m' = l ∧ k = i then some hv else D2.spine m' k) = _
          rw [if_neg (fun e => by omega), HL2.out.above m' k (by have := HLL.out; omega), HL1.out.above m' k (by have := HLL.out; omega)])
      clear hset hbx8 hT8 hM8 hM9 hMT hN hne
      go_upto_region 14 with (fail)
      rw [← hw8]
      clear hw8 c15 e15
      refine wp_region_tree (fun w' => w'.cell? ⟨eb, 14, none⟩ = some (.map (some pb)) ∧ w'.cell? ⟨w.heap.size, 0, none⟩ = some (.int .i64 (l : Int)) ∧ w'.cell? ⟨w.heap.size, 1, none⟩ = some (.int .i64 (i : Int))) (.hd 0 (.hd 1 (.hd 2 (.hd 3 (.hd 4 (.hd 5 (.fk 6 .nil .no))))))) (by kernel_rfl) (by kernel_rfl) (fun _ _ d _ _ h => by cases d <;> exact h) ⟨c14, d0, d1⟩ ?_
      iterate 6
        refine hdT ?_ ?_ (by rfl) (by rfl) (fun w' s1 => ?_) ?_ ?_
        rotate_left 2
        focus (obtain ⟨s1, s2, s3⟩ := s1; go_simp; exact rfl)
        focus (go_simp; exact rfl)
      refine fkTn (by kernel_rfl) (by rfl) (by rfl) (fun K hK => ?_) noT
      go_wp2_with fail
      refine nilT ?_
      go_wp2
      go_ret
      exact ⟨by rw [← HHV.out]; rfl, _, HFIN.out⟩
end
end Go.Proofs.YtblkehdpenfhjaaGreatDoor
