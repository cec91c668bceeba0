import Derived.Test.YtblkehdpenfhjaaGreatDoorR7
set_option linter.unnecessarySimpa false
set_option linter.unusedVariables false
set_option linter.unusedSimpArgs false
/-
  An engine begun; an engine made.
-/
set_option linter.unusedVariables false
set_option linter.unusedSimpArgs false
namespace Go.Proofs.YtblkehdpenfhjaaGreatDoor
open Go.RowKit Go.Maps Go.ChangeMaps Go.MapKept

section
variable {w w' : World} {a : EA} {D : ED} {X Y : Nat → Prop} {room : Nat} {now disk : Recs} {log : List Value} {F : Nat → Prop} {sb age : Nat}
def D0 (W B space age : Nat) : ED := { W := W, B := B, space := space, age := age, bu := 0, he := 0, ca := 0, L := [], rows := fun _ => none, dirty := fun _ => false, unwr := fun _ => false, spine := fun _ _ => none, nodes := 0 }
def five (w : World) (c : Array Value) : World := ((((w.alloc (.map #[] 0)).alloc (.map #[] 0)).alloc (.map #[] 0)).alloc (.map #[] 0)).alloc (.cells c 88 (0, 0))
theorem begun {w1 : World} {W B space : Nat} (hW1 : 1 ≤ W) (hW2 : W ≤ 32) (hB : B ≤ 10) (hsp : space < 9223372036854775808) (hag : age < 4611686018427387904)
    (h : StoreAt w sb room now disk log age F) (hl : ∀ b, F b → b < w.heap.size) (hG : Glob w) (hgf : ∀ b, GlobB b → ¬ F b) (hb : Below w.heap.size w w1) {n rb db ub pb eb : Nat} (hn : n = w1.heap.size)
    (he : eb = n + 4) (h1 : n ≤ rb ∧ rb < n + 4) (h2 : n ≤ db ∧ db < n + 4) (h3 : n ≤ ub ∧ ub < n + 4) (h4 : n ≤ pb ∧ pb < n + 4) (d1 : rb ≠ db) (d2 : rb ≠ ub) (d3 : rb ≠ pb) (d4 : db ≠ ub) (d5 : db ≠ pb) (d6 : ub ≠ pb)
    {c : Array Value} (hc : c = engC ⟨eb, sb, rb, db, ub, pb⟩ (D0 W B space age) (.slice none 0 0)) :
    ∃ a : EA, a.eb = eb ∧ a.sb = sb ∧ Sys (five w1 c) a (D0 W B space age) room now disk log F ∧ Below w.heap.size w (five w1 c) ∧ ∀ b, a.own b → w.heap.size ≤ b := by
  have hs := hb.size
  obtain ⟨M, hM⟩ : ∃ M, M = Obj.map #[] 0 := ⟨_, rfl⟩
  have al : ∀ (x : World) (o : Obj) (k : Nat), x.heap.size = k → (x.alloc o).heap[k]? = some o ∧ (x.alloc o).heap.size = k + 1 := fun x o k hk => by subst hk; exact ⟨(MapKept.heap_alloc x o).1, by simp⟩
  have q1 := al w1 M n hn.symm
  have q2 := al (w1.alloc M) M (n + 1) q1.2
  have q3 := al ((w1.alloc M).alloc M) M (n + 2) q2.2
  have q4 := al (((w1.alloc M).alloc M).alloc M) M (n + 3) q3.2
  have q5 := al ((((w1.alloc M).alloc M).alloc M).alloc M) (.cells c 88 (0, 0)) (n + 4) q4.2
  have e5 : five w1 c = ((((w1.alloc M).alloc M).alloc M).alloc M).alloc (.cells c 88 (0, 0)) := by rw [hM]; rfl
  have hm : ∀ k, n ≤ k → k < n + 4 → (five w1 c).heap[k]? = some (.map #[] 0) := fun k hk1 hk2 => by
    rw [e5, ← hM]
    have hj : k = n ∨ k = n + 1 ∨ k = n + 2 ∨ k = n + 3 := by omega
    rcases hj with rfl | rfl | rfl | rfl
    · exact heap_alloc_keep (heap_alloc_keep (heap_alloc_keep (heap_alloc_keep q1.1 _) _) _) _
    · exact heap_alloc_keep (heap_alloc_keep (heap_alloc_keep q2.1 _) _) _
    · exact heap_alloc_keep (heap_alloc_keep q3.1 _) _
    · exact heap_alloc_keep q4.1 _
  have hblk : (five w1 c).heap[eb]? = some (.cells c 88 (0, 0)) := by rw [e5, he]; exact q5.1
  have hB5 : Below w.heap.size w (five w1 c) := by
    rw [e5]
    exact ((((hb.alloc hs _).alloc (by omega) _).alloc (by omega) _).alloc (by omega) _).alloc (by omega) _
  have hown : ∀ b, EA.own ⟨eb, sb, rb, db, ub, pb⟩ b → w.heap.size ≤ b := fun b hb => by
    rcases hb with h | h | h | h | h <;> (dsimp only at h; omega)
  have hbf : boolF (fun _ => false) = fun _ => none := by funext q; simp [boolF]
  refine ⟨⟨eb, sb, rb, db, ub, pb⟩, rfl, rfl, ⟨⟨.slice none 0 0, fun _ => none, fun _ => none, 0, ?_⟩, h.below hB5, fun b hF => Nat.lt_of_lt_of_le (hl b hF) hB5.size, fun b hF ho => by have := hl b hF; have := hown b ho; omega, ⟨fun j hj => ?_, fun l i x hx => by cases hx⟩, hG.keep hB5, hgf⟩, hB5, hown⟩
  · refine ⟨by rw [hblk, hc], IntMap.made _ _ _ (hm rb h1.1 h1.2), ?_, ?_, MapF.copy (MapF.made Tryz.prog 42 w) ((hm pb h4.1 h4.2).trans (MapKept.heap_alloc w (.map #[] 0)).1.symm), ?_, fun j => trivial, fun l i _ _ => rfl, by show 0 ≤ 0 + 1; omega, d1, d2, d3, d4, d5, d6, fun b hX => hX.1, ⟨hW1, hW2, hB, hsp, hag, fun x hx => by simp [D0] at hx, by simp [D0], by simp [D0]⟩, fun b hg ho => hG.new (hown b ho) hg, fun _ => rfl⟩
    · show IntMap _ _ _ db (boolF (fun _ => false))
      rw [hbf]; exact IntMap.made _ _ _ (hm db h2.1 h2.2)
    · show IntMap _ _ _ ub (boolF (fun _ => false))
      rw [hbf]; exact IntMap.made _ _ _ (hm ub h3.1 h3.2)
    · exact ⟨none, 0, rfl, Nat.le_refl _, fun h => by simp [D0] at h⟩
  · have hj' : j * (D0 W B space age).size < 0 := hj
    omega
set_option maxHeartbeats 16000000 in
set_option maxRecDepth 100000 in
theorem begin_calls {W B space : Nat} (hW1 : 1 ≤ W) (hW2 : W ≤ 32) (hB : B ≤ 10) (hsp : space < 9223372036854775808) (hag : age < 4611686018427387904)
    (h : StoreAt w sb room now disk log age F) (hl : ∀ b, F b → b < w.heap.size) (hG : Glob w) (hgf : ∀ b, GlobB b → ¬ F b) :
    Calls Tryz.prog 94 #[.pointer (some ⟨sb, 0, none⟩), optV W B, .int .i64 space] w fun r w' => ∃ a : EA, r = .returned (.pointer (some ⟨a.eb, 0, none⟩)) ∧ a.sb = sb ∧ Sys w' a (D0 W B space age) room now disk log F ∧ Below w.heap.size w w' ∧ ∀ b, a.own b → w.heap.size ≤ b := by
  obtain ⟨w0, hw0⟩ : ∃ w0, w0 = w.alloc (.cells #[.int .i64 3, .int .i64 W, .int .i64 0, .int .i64 0, .int .i64 0, .int .i64 B] 25) := ⟨_, rfl⟩
  have hb0 : Below w.heap.size w w0 := by rw [hw0]; exact (Below.refl _ _).alloc (Nat.le_refl _) _
  have hbx : w0.heap[w.heap.size]? = some (.cells #[.int .i64 3, .int .i64 W, .int .i64 0, .int .i64 0, .int .i64 0, .int .i64 B] 25 (0, 0)) := by rw [hw0]; exact (MapKept.heap_alloc w _).1
  have hlt : w.heap.size < w0.heap.size := block_lt hbx
  have HSZ := Lib.hid (show w0.heap.size = w.heap.size + 1 by rw [hw0]; simp)
  have HAG := Lib.hid (fun w' (hb : Below w0.heap.size w0 w') => (h.below (hb0.trans (hb.mono hb0.size))).age_calls)
  have HC := Lib.hid (fun w' (hb : Below w0.heap.size w0 w') (k : Nat) => hb.cell (p := ⟨w.heap.size, k, none⟩) hlt)
  have HC0 := Lib.hid (fun (k : Nat) (hk : k < 6) => cell_of_block (off := k) hbx hk)
  have HFI := Lib.hid (And.intro hW1 (And.intro hW2 (And.intro hB (And.intro hsp (And.intro hag (And.intro h (And.intro hl (And.intro hG (And.intro hgf hb0)))))))))
  have HFIN := Lib.hid (fun (rb db ub pb : Nat) (h1 : w0.heap.size ≤ rb ∧ rb < w0.heap.size + 4) (h2 : w0.heap.size ≤ db ∧ db < w0.heap.size + 4) (h3 : w0.heap.size ≤ ub ∧ ub < w0.heap.size + 4) (h4 : w0.heap.size ≤ pb ∧ pb < w0.heap.size + 4) (d1 : rb ≠ db) (d2 : rb ≠ ub) (d3 : rb ≠ pb) (d4 : db ≠ ub) (d5 : db ≠ pb) (d6 : ub ≠ pb) =>
    begun hW1 hW2 hB hsp hag h hl hG hgf hb0.drew (n := w0.heap.size) rfl (eb := w0.heap.size + 1 + 1 + 1 + 1) rfl h1 h2 h3 h4 d1 d2 d3 d4 d5 d6 rfl)
  clear hW1 hW2 hB hsp hag h hl hG hgf hb0 hbx hlt
  have hmm := @run_makeMap Tryz.prog
  unfold optV
  go_enter Tryz.func94, Tryz.ntmps94
  go_wp2_with fail
  rw [← hw0]
  clear hw0
  refine wp_region_tree (fun w' => Hid (Below w0.heap.size w0 w')) (.hd 0 (.hd 1 (.hd 2 (.hd 3 (.hd 4 (.fk 5 (.fk 6 (.fk 7 (.fk 8 (.hd 9 (.fk 10 (.hd 11 .nil) .no)) .no) (.fk 8 (.fk 7 (.hd 9 (.fk 10 (.hd 11 .nil) .no)) .no) .no)) (.fk 7 (.fk 6 (.fk 8 (.hd 9 (.fk 10 (.hd 11 .nil) .no)) .no) (.fk 8 (.fk 6 (.hd 9 (.fk 10 (.hd 11 .nil) .no)) .no) .no)) (.fk 8 (.fk 6 (.fk 7 (.hd 9 (.fk 10 (.hd 11 .nil) .no)) .no) (.fk 7 (.fk 6 (.hd 9 (.fk 10 (.hd 11 .nil) .no)) .no) .no)) .no))) (.fk 6 (.fk 5 (.fk 7 (.fk 8 (.hd 9 (.fk 10 (.hd 11 .nil) .no)) .no) (.fk 8 (.fk 7 (.hd 9 (.fk 10 (.hd 11 .nil) .no)) .no) .no)) (.fk 7 (.fk 5 (.fk 8 (.hd 9 (.fk 10 (.hd 11 .nil) .no)) .no) (.fk 8 (.fk 5 (.hd 9 (.fk 10 (.hd 11 .nil) .no)) .no) .no)) (.fk 8 (.fk 5 (.fk 7 (.hd 9 (.fk 10 (.hd 11 .nil) .no)) .no) (.fk 7 (.fk 5 (.hd 9 (.fk 10 (.hd 11 .nil) .no)) .no) .no)) .no))) (.fk 7 (.fk 5 (.fk 6 (.fk 8 (.hd 9 (.fk 10 (.hd 11 .nil) .no)) .no) (.fk 8 (.fk 6 (.hd 9 (.fk 10 (.hd 11 .nil) .no)) .no) .no)) (.fk 6 (.fk 5 (.fk 8 (.hd 9 (.fk 10 (.hd 11 .nil) .no)) .no) (.fk 8 (.fk 5 (.hd 9 (.fk 10 (.hd 11 .nil) .no)) .no) .no)) (.fk 8 (.fk 5 (.fk 6 (.hd 9 (.fk 10 (.hd 11 .nil) .no)) .no) (.fk 6 (.fk 5 (.hd 9 (.fk 10 (.hd 11 .nil) .no)) .no) .no)) .no))) (.fk 8 (.fk 5 (.fk 6 (.fk 7 (.hd 9 (.fk 10 (.hd 11 .nil) .no)) .no) (.fk 7 (.fk 6 (.hd 9 (.fk 10 (.hd 11 .nil) .no)) .no) .no)) (.fk 6 (.fk 5 (.fk 7 (.hd 9 (.fk 10 (.hd 11 .nil) .no)) .no) (.fk 7 (.fk 5 (.hd 9 (.fk 10 (.hd 11 .nil) .no)) .no) .no)) (.fk 7 (.fk 5 (.fk 6 (.hd 9 (.fk 10 (.hd 11 .nil) .no)) .no) (.fk 6 (.fk 5 (.hd 9 (.fk 10 (.hd 11 .nil) .no)) .no) .no)) .no))) .no))))))))) (by kernel_rfl) (by kernel_rfl) (fun _ _ d _ _ h => by cases d <;> exact h) (Lib.hid (Below.refl _ w0).drew) ?_
  have HS := Lib.hid (Below.refl w0.heap.size w0).drew
  iterate 2
    refine hdT ?_ ?_ (by rfl) (by rfl) (fun w' s1 => ?_) ?_ ?_
    rotate_left 2
    focus (go_simp; exact rfl)
    focus (go_simp; exact rfl)
  refine hcT ?_ ?_ ?_ ?_ (by rfl) (by rfl) (fun w' s1 => ?_) (fun w' s1 => ?_) ?_ ?_
  rotate_left 4
  focus (go_simp; first | exact rfl | (refine ⟨?_, ?_⟩ <;> exact rfl))
  focus (exact HAG.out w' s1.out)
  focus (go_simp; exact rfl)
  refine hdT ?_ ?_ (by rfl) (by rfl) (fun w' s1 => ?_) ?_ ?_
  rotate_left 2
  focus (have d0 := (HC.out w' s1.out 0).trans (HC0.out 0 (by decide)); have d1 := (HC.out w' s1.out 1).trans (HC0.out 1 (by decide)); have d2 := (HC.out w' s1.out 2).trans (HC0.out 2 (by decide)); have d3 := (HC.out w' s1.out 3).trans (HC0.out 3 (by decide)); have d4 := (HC.out w' s1.out 4).trans (HC0.out 4 (by decide)); have d5 := (HC.out w' s1.out 5).trans (HC0.out 5 (by decide)); go_simp; exact rfl)
  focus (go_simp; exact rfl)
  refine hdT ?_ ?_ (by rfl) (by rfl) (fun w' s1 => ?_) ?_ ?_
  rotate_left 2
  focus (go_simp; exact rfl)
  focus (go_simp; exact rfl)
  refine fkT (by rfl) (by rfl) (fun K hK => ?_) ?_
  · go_wp2_with fail
    refine hK _ _ (Lib.hid (HS.out.alloc (by have := HS.out.size; simpa using this) _)) ?_
    clear hK
    have HS := Lib.hid (HS.out.alloc (by have := HS.out.size; simpa using this) (.map #[] 0))
    refine fkT (by rfl) (by rfl) (fun K hK => ?_) ?_
    · go_wp2_with fail
      refine hK _ _ (Lib.hid (HS.out.alloc (by have := HS.out.size; simpa using this) _)) ?_
      clear hK
      have HS := Lib.hid (HS.out.alloc (by have := HS.out.size; simpa using this) (.map #[] 0))
      refine fkT (by rfl) (by rfl) (fun K hK => ?_) ?_
      · go_wp2_with fail
        refine hK _ _ (Lib.hid (HS.out.alloc (by have := HS.out.size; simpa using this) _)) ?_
        clear hK
        have HS := Lib.hid (HS.out.alloc (by have := HS.out.size; simpa using this) (.map #[] 0))
        refine fkT (by rfl) (by rfl) (fun K hK => ?_) ?_
        · go_wp2_with fail
          refine hK _ _ (Lib.hid (HS.out.alloc (by have := HS.out.size; simpa using this) _)) ?_
          clear hK
          have HS := Lib.hid (HS.out.alloc (by have := HS.out.size; simpa using this) (.map #[] 0))
          refine hdT ?_ ?_ (by rfl) (by rfl) (fun w' s1 => ?_) ?_ ?_
          rotate_left 2
          focus (go_simp; exact rfl)
          focus (go_simp; exact rfl)
          refine fkT (by rfl) (by rfl) (fun K hK => ?_) noT
          go_wp2_with fail
          refine hK _ _ (by first | exact Lib.hid (HS.out.alloc (by have := HS.out.size; simpa using this) _)) ?_
          refine hdT ?_ ?_ (by rfl) (by rfl) (fun w' s1 => ?_) ?_ ?_
          rotate_left 2
          focus (go_simp; exact rfl)
          focus (go_simp; exact rfl)
          refine nilT ?_
          go_wp2
          go_ret
          obtain ⟨a, ha, hr⟩ := HFIN.out (w0.heap.size) (w0.heap.size + 1) (w0.heap.size + 1 + 1) (w0.heap.size + 1 + 1 + 1) (by omega) (by omega) (by omega) (by omega) (by omega) (by omega) (by omega) (by omega) (by omega) (by omega)
          exact ⟨a, by rw [ha]; rfl, hr⟩
        exact noT
      refine fkT (by rfl) (by rfl) (fun K hK => ?_) ?_
      · go_wp2_with fail
        refine hK _ _ (Lib.hid (HS.out.alloc (by have := HS.out.size; simpa using this) _)) ?_
        clear hK
        have HS := Lib.hid (HS.out.alloc (by have := HS.out.size; simpa using this) (.map #[] 0))
        refine fkT (by rfl) (by rfl) (fun K hK => ?_) ?_
        · go_wp2_with fail
          refine hK _ _ (Lib.hid (HS.out.alloc (by have := HS.out.size; simpa using this) _)) ?_
          clear hK
          have HS := Lib.hid (HS.out.alloc (by have := HS.out.size; simpa using this) (.map #[] 0))
          refine hdT ?_ ?_ (by rfl) (by rfl) (fun w' s1 => ?_) ?_ ?_
          rotate_left 2
          focus (go_simp; exact rfl)
          focus (go_simp; exact rfl)
          refine fkT (by rfl) (by rfl) (fun K hK => ?_) noT
          go_wp2_with fail
          refine hK _ _ (by first | exact Lib.hid (HS.out.alloc (by have := HS.out.size; simpa using this) _)) ?_
          refine hdT ?_ ?_ (by rfl) (by rfl) (fun w' s1 => ?_) ?_ ?_
          rotate_left 2
          focus (go_simp; exact rfl)
          focus (go_simp; exact rfl)
          refine nilT ?_
          go_wp2
          go_ret
          obtain ⟨a, ha, hr⟩ := HFIN.out (w0.heap.size) (w0.heap.size + 1) (w0.heap.size + 1 + 1 + 1) (w0.heap.size + 1 + 1) (by omega) (by omega) (by omega) (by omega) (by omega) (by omega) (by omega) (by omega) (by omega) (by omega)
          exact ⟨a, by rw [ha]; rfl, hr⟩
        exact noT
      exact noT
    refine fkT (by rfl) (by rfl) (fun K hK => ?_) ?_
    · go_wp2_with fail
      refine hK _ _ (Lib.hid (HS.out.alloc (by have := HS.out.size; simpa using this) _)) ?_
      clear hK
      have HS := Lib.hid (HS.out.alloc (by have := HS.out.size; simpa using this) (.map #[] 0))
      refine fkT (by rfl) (by rfl) (fun K hK => ?_) ?_
      · go_wp2_with fail
        refine hK _ _ (Lib.hid (HS.out.alloc (by have := HS.out.size; simpa using this) _)) ?_
        clear hK
        have HS := Lib.hid (HS.out.alloc (by have := HS.out.size; simpa using this) (.map #[] 0))
        refine fkT (by rfl) (by rfl) (fun K hK => ?_) ?_
        · go_wp2_with fail
          refine hK _ _ (Lib.hid (HS.out.alloc (by have := HS.out.size; simpa using this) _)) ?_
          clear hK
          have HS := Lib.hid (HS.out.alloc (by have := HS.out.size; simpa using this) (.map #[] 0))
          refine hdT ?_ ?_ (by rfl) (by rfl) (fun w' s1 => ?_) ?_ ?_
          rotate_left 2
          focus (go_simp; exact rfl)
          focus (go_simp; exact rfl)
          refine fkT (by rfl) (by rfl) (fun K hK => ?_) noT
          go_wp2_with fail
          refine hK _ _ (by first | exact Lib.hid (HS.out.alloc (by have := HS.out.size; simpa using this) _)) ?_
          refine hdT ?_ ?_ (by rfl) (by rfl) (fun w' s1 => ?_) ?_ ?_
          rotate_left 2
          focus (go_simp; exact rfl)
          focus (go_simp; exact rfl)
          refine nilT ?_
          go_wp2
          go_ret
          obtain ⟨a, ha, hr⟩ := HFIN.out (w0.heap.size) (w0.heap.size + 1 + 1) (w0.heap.size + 1) (w0.heap.size + 1 + 1 + 1) (by omega) (by omega) (by omega) (by omega) (by omega) (by omega) (by omega) (by omega) (by omega) (by omega)
          exact ⟨a, by rw [ha]; rfl, hr⟩
        exact noT
      refine fkT (by rfl) (by rfl) (fun K hK => ?_) ?_
      · go_wp2_with fail
        refine hK _ _ (Lib.hid (HS.out.alloc (by have := HS.out.size; simpa using this) _)) ?_
        clear hK
        have HS := Lib.hid (HS.out.alloc (by have := HS.out.size; simpa using this) (.map #[] 0))
        refine fkT (by rfl) (by rfl) (fun K hK => ?_) ?_
        · go_wp2_with fail
          refine hK _ _ (Lib.hid (HS.out.alloc (by have := HS.out.size; simpa using this) _)) ?_
          clear hK
          have HS := Lib.hid (HS.out.alloc (by have := HS.out.size; simpa using this) (.map #[] 0))
          refine hdT ?_ ?_ (by rfl) (by rfl) (fun w' s1 => ?_) ?_ ?_
          rotate_left 2
          focus (go_simp; exact rfl)
          focus (go_simp; exact rfl)
          refine fkT (by rfl) (by rfl) (fun K hK => ?_) noT
          go_wp2_with fail
          refine hK _ _ (by first | exact Lib.hid (HS.out.alloc (by have := HS.out.size; simpa using this) _)) ?_
          refine hdT ?_ ?_ (by rfl) (by rfl) (fun w' s1 => ?_) ?_ ?_
          rotate_left 2
          focus (go_simp; exact rfl)
          focus (go_simp; exact rfl)
          refine nilT ?_
          go_wp2
          go_ret
          obtain ⟨a, ha, hr⟩ := HFIN.out (w0.heap.size) (w0.heap.size + 1 + 1 + 1) (w0.heap.size + 1) (w0.heap.size + 1 + 1) (by omega) (by omega) (by omega) (by omega) (by omega) (by omega) (by omega) (by omega) (by omega) (by omega)
          exact ⟨a, by rw [ha]; rfl, hr⟩
        exact noT
      exact noT
    refine fkT (by rfl) (by rfl) (fun K hK => ?_) ?_
    · go_wp2_with fail
      refine hK _ _ (Lib.hid (HS.out.alloc (by have := HS.out.size; simpa using this) _)) ?_
      clear hK
      have HS := Lib.hid (HS.out.alloc (by have := HS.out.size; simpa using this) (.map #[] 0))
      refine fkT (by rfl) (by rfl) (fun K hK => ?_) ?_
      · go_wp2_with fail
        refine hK _ _ (Lib.hid (HS.out.alloc (by have := HS.out.size; simpa using this) _)) ?_
        clear hK
        have HS := Lib.hid (HS.out.alloc (by have := HS.out.size; simpa using this) (.map #[] 0))
        refine fkT (by rfl) (by rfl) (fun K hK => ?_) ?_
        · go_wp2_with fail
          refine hK _ _ (Lib.hid (HS.out.alloc (by have := HS.out.size; simpa using this) _)) ?_
          clear hK
          have HS := Lib.hid (HS.out.alloc (by have := HS.out.size; simpa using this) (.map #[] 0))
          refine hdT ?_ ?_ (by rfl) (by rfl) (fun w' s1 => ?_) ?_ ?_
          rotate_left 2
          focus (go_simp; exact rfl)
          focus (go_simp; exact rfl)
          refine fkT (by rfl) (by rfl) (fun K hK => ?_) noT
          go_wp2_with fail
          refine hK _ _ (by first | exact Lib.hid (HS.out.alloc (by have := HS.out.size; simpa using this) _)) ?_
          refine hdT ?_ ?_ (by rfl) (by rfl) (fun w' s1 => ?_) ?_ ?_
          rotate_left 2
          focus (go_simp; exact rfl)
          focus (go_simp; exact rfl)
          refine nilT ?_
          go_wp2
          go_ret
          obtain ⟨a, ha, hr⟩ := HFIN.out (w0.heap.size) (w0.heap.size + 1 + 1) (w0.heap.size + 1 + 1 + 1) (w0.heap.size + 1) (by omega) (by omega) (by omega) (by omega) (by omega) (by omega) (by omega) (by omega) (by omega) (by omega)
          exact ⟨a, by rw [ha]; rfl, hr⟩
        exact noT
      refine fkT (by rfl) (by rfl) (fun K hK => ?_) ?_
      · go_wp2_with fail
        refine hK _ _ (Lib.hid (HS.out.alloc (by have := HS.out.size; simpa using this) _)) ?_
        clear hK
        have HS := Lib.hid (HS.out.alloc (by have := HS.out.size; simpa using this) (.map #[] 0))
        refine fkT (by rfl) (by rfl) (fun K hK => ?_) ?_
        · go_wp2_with fail
          refine hK _ _ (Lib.hid (HS.out.alloc (by have := HS.out.size; simpa using this) _)) ?_
          clear hK
          have HS := Lib.hid (HS.out.alloc (by have := HS.out.size; simpa using this) (.map #[] 0))
          refine hdT ?_ ?_ (by rfl) (by rfl) (fun w' s1 => ?_) ?_ ?_
          rotate_left 2
          focus (go_simp; exact rfl)
          focus (go_simp; exact rfl)
          refine fkT (by rfl) (by rfl) (fun K hK => ?_) noT
          go_wp2_with fail
          refine hK _ _ (by first | exact Lib.hid (HS.out.alloc (by have := HS.out.size; simpa using this) _)) ?_
          refine hdT ?_ ?_ (by rfl) (by rfl) (fun w' s1 => ?_) ?_ ?_
          rotate_left 2
          focus (go_simp; exact rfl)
          focus (go_simp; exact rfl)
          refine nilT ?_
          go_wp2
          go_ret
          obtain ⟨a, ha, hr⟩ := HFIN.out (w0.heap.size) (w0.heap.size + 1 + 1 + 1) (w0.heap.size + 1 + 1) (w0.heap.size + 1) (by omega) (by omega) (by omega) (by omega) (by omega) (by omega) (by omega) (by omega) (by omega) (by omega)
          exact ⟨a, by rw [ha]; rfl, hr⟩
        exact noT
      exact noT
    exact noT
  refine fkT (by rfl) (by rfl) (fun K hK => ?_) ?_
  · go_wp2_with fail
    refine hK _ _ (Lib.hid (HS.out.alloc (by have := HS.out.size; simpa using this) _)) ?_
    clear hK
    have HS := Lib.hid (HS.out.alloc (by have := HS.out.size; simpa using this) (.map #[] 0))
    refine fkT (by rfl) (by rfl) (fun K hK => ?_) ?_
    · go_wp2_with fail
      refine hK _ _ (Lib.hid (HS.out.alloc (by have := HS.out.size; simpa using this) _)) ?_
      clear hK
      have HS := Lib.hid (HS.out.alloc (by have := HS.out.size; simpa using this) (.map #[] 0))
      refine fkT (by rfl) (by rfl) (fun K hK => ?_) ?_
      · go_wp2_with fail
        refine hK _ _ (Lib.hid (HS.out.alloc (by have := HS.out.size; simpa using this) _)) ?_
        clear hK
        have HS := Lib.hid (HS.out.alloc (by have := HS.out.size; simpa using this) (.map #[] 0))
        refine fkT (by rfl) (by rfl) (fun K hK => ?_) ?_
        · go_wp2_with fail
          refine hK _ _ (Lib.hid (HS.out.alloc (by have := HS.out.size; simpa using this) _)) ?_
          clear hK
          have HS := Lib.hid (HS.out.alloc (by have := HS.out.size; simpa using this) (.map #[] 0))
          refine hdT ?_ ?_ (by rfl) (by rfl) (fun w' s1 => ?_) ?_ ?_
          rotate_left 2
          focus (go_simp; exact rfl)
          focus (go_simp; exact rfl)
          refine fkT (by rfl) (by rfl) (fun K hK => ?_) noT
          go_wp2_with fail
          refine hK _ _ (by first | exact Lib.hid (HS.out.alloc (by have := HS.out.size; simpa using this) _)) ?_
          refine hdT ?_ ?_ (by rfl) (by rfl) (fun w' s1 => ?_) ?_ ?_
          rotate_left 2
          focus (go_simp; exact rfl)
          focus (go_simp; exact rfl)
          refine nilT ?_
          go_wp2
          go_ret
          obtain ⟨a, ha, hr⟩ := HFIN.out (w0.heap.size + 1) (w0.heap.size) (w0.heap.size + 1 + 1) (w0.heap.size + 1 + 1 + 1) (by omega) (by omega) (by omega) (by omega) (by omega) (by omega) (by omega) (by omega) (by omega) (by omega)
          exact ⟨a, by rw [ha]; rfl, hr⟩
        exact noT
      refine fkT (by rfl) (by rfl) (fun K hK => ?_) ?_
      · go_wp2_with fail
        refine hK _ _ (Lib.hid (HS.out.alloc (by have := HS.out.size; simpa using this) _)) ?_
        clear hK
        have HS := Lib.hid (HS.out.alloc (by have := HS.out.size; simpa using this) (.map #[] 0))
        refine fkT (by rfl) (by rfl) (fun K hK => ?_) ?_
        · go_wp2_with fail
          refine hK _ _ (Lib.hid (HS.out.alloc (by have := HS.out.size; simpa using this) _)) ?_
          clear hK
          have HS := Lib.hid (HS.out.alloc (by have := HS.out.size; simpa using this) (.map #[] 0))
          refine hdT ?_ ?_ (by rfl) (by rfl) (fun w' s1 => ?_) ?_ ?_
          rotate_left 2
          focus (go_simp; exact rfl)
          focus (go_simp; exact rfl)
          refine fkT (by rfl) (by rfl) (fun K hK => ?_) noT
          go_wp2_with fail
          refine hK _ _ (by first | exact Lib.hid (HS.out.alloc (by have := HS.out.size; simpa using this) _)) ?_
          refine hdT ?_ ?_ (by rfl) (by rfl) (fun w' s1 => ?_) ?_ ?_
          rotate_left 2
          focus (go_simp; exact rfl)
          focus (go_simp; exact rfl)
          refine nilT ?_
          go_wp2
          go_ret
          obtain ⟨a, ha, hr⟩ := HFIN.out (w0.heap.size + 1) (w0.heap.size) (w0.heap.size + 1 + 1 + 1) (w0.heap.size + 1 + 1) (by omega) (by omega) (by omega) (by omega) (by omega) (by omega) (by omega) (by omega) (by omega) (by omega)
          exact ⟨a, by rw [ha]; rfl, hr⟩
        exact noT
      exact noT
    refine fkT (by rfl) (by rfl) (fun K hK => ?_) ?_
    · go_wp2_with fail
      refine hK _ _ (Lib.hid (HS.out.alloc (by have := HS.out.size; simpa using this) _)) ?_
      clear hK
      have HS := Lib.hid (HS.out.alloc (by have := HS.out.size; simpa using this) (.map #[] 0))
      refine fkT (by rfl) (by rfl) (fun K hK => ?_) ?_
      · go_wp2_with fail
        refine hK _ _ (Lib.hid (HS.out.alloc (by have := HS.out.size; simpa using this) _)) ?_
        clear hK
        have HS := Lib.hid (HS.out.alloc (by have := HS.out.size; simpa using this) (.map #[] 0))
        refine fkT (by rfl) (by rfl) (fun K hK => ?_) ?_
        · go_wp2_with fail
          refine hK _ _ (Lib.hid (HS.out.alloc (by have := HS.out.size; simpa using this) _)) ?_
          clear hK
          have HS := Lib.hid (HS.out.alloc (by have := HS.out.size; simpa using this) (.map #[] 0))
          refine hdT ?_ ?_ (by rfl) (by rfl) (fun w' s1 => ?_) ?_ ?_
          rotate_left 2
          focus (go_simp; exact rfl)
          focus (go_simp; exact rfl)
          refine fkT (by rfl) (by rfl) (fun K hK => ?_) noT
          go_wp2_with fail
          refine hK _ _ (by first | exact Lib.hid (HS.out.alloc (by have := HS.out.size; simpa using this) _)) ?_
          refine hdT ?_ ?_ (by rfl) (by rfl) (fun w' s1 => ?_) ?_ ?_
          rotate_left 2
          focus (go_simp; exact rfl)
          focus (go_simp; exact rfl)
          refine nilT ?_
          go_wp2
          go_ret
          obtain ⟨a, ha, hr⟩ := HFIN.out (w0.heap.size + 1 + 1) (w0.heap.size) (w0.heap.size + 1) (w0.heap.size + 1 + 1 + 1) (by omega) (by omega) (by omega) (by omega) (by omega) (by omega) (by omega) (by omega) (by omega) (by omega)
          exact ⟨a, by rw [ha]; rfl, hr⟩
        exact noT
      refine fkT (by rfl) (by rfl) (fun K hK => ?_) ?_
      · go_wp2_with fail
        refine hK _ _ (Lib.hid (HS.out.alloc (by have := HS.out.size; simpa using this) _)) ?_
        clear hK
        have HS := Lib.hid (HS.out.alloc (by have := HS.out.size; simpa using this) (.map #[] 0))
        refine fkT (by rfl) (by rfl) (fun K hK => ?_) ?_
        · go_wp2_with fail
          refine hK _ _ (Lib.hid (HS.out.alloc (by have := HS.out.size; simpa using this) _)) ?_
          clear hK
          have HS := Lib.hid (HS.out.alloc (by have := HS.out.size; simpa using this) (.map #[] 0))
          refine hdT ?_ ?_ (by rfl) (by rfl) (fun w' s1 => ?_) ?_ ?_
          rotate_left 2
          focus (go_simp; exact rfl)
          focus (go_simp; exact rfl)
          refine fkT (by rfl) (by rfl) (fun K hK => ?_) noT
          go_wp2_with fail
          refine hK _ _ (by first | exact Lib.hid (HS.out.alloc (by have := HS.out.size; simpa using this) _)) ?_
          refine hdT ?_ ?_ (by rfl) (by rfl) (fun w' s1 => ?_) ?_ ?_
          rotate_left 2
          focus (go_simp; exact rfl)
          focus (go_simp; exact rfl)
          refine nilT ?_
          go_wp2
          go_ret
          obtain ⟨a, ha, hr⟩ := HFIN.out (w0.heap.size + 1 + 1 + 1) (w0.heap.size) (w0.heap.size + 1) (w0.heap.size + 1 + 1) (by omega) (by omega) (by omega) (by omega) (by omega) (by omega) (by omega) (by omega) (by omega) (by omega)
          exact ⟨a, by rw [ha]; rfl, hr⟩
        exact noT
      exact noT
    refine fkT (by rfl) (by rfl) (fun K hK => ?_) ?_
    · go_wp2_with fail
      refine hK _ _ (Lib.hid (HS.out.alloc (by have := HS.out.size; simpa using this) _)) ?_
      clear hK
      have HS := Lib.hid (HS.out.alloc (by have := HS.out.size; simpa using this) (.map #[] 0))
      refine fkT (by rfl) (by rfl) (fun K hK => ?_) ?_
      · go_wp2_with fail
        refine hK _ _ (Lib.hid (HS.out.alloc (by have := HS.out.size; simpa using this) _)) ?_
        clear hK
        have HS := Lib.hid (HS.out.alloc (by have := HS.out.size; simpa using this) (.map #[] 0))
        refine fkT (by rfl) (by rfl) (fun K hK => ?_) ?_
        · go_wp2_with fail
          refine hK _ _ (Lib.hid (HS.out.alloc (by have := HS.out.size; simpa using this) _)) ?_
          clear hK
          have HS := Lib.hid (HS.out.alloc (by have := HS.out.size; simpa using this) (.map #[] 0))
          refine hdT ?_ ?_ (by rfl) (by rfl) (fun w' s1 => ?_) ?_ ?_
          rotate_left 2
          focus (go_simp; exact rfl)
          focus (go_simp; exact rfl)
          refine fkT (by rfl) (by rfl) (fun K hK => ?_) noT
          go_wp2_with fail
          refine hK _ _ (by first | exact Lib.hid (HS.out.alloc (by have := HS.out.size; simpa using this) _)) ?_
          refine hdT ?_ ?_ (by rfl) (by rfl) (fun w' s1 => ?_) ?_ ?_
          rotate_left 2
          focus (go_simp; exact rfl)
          focus (go_simp; exact rfl)
          refine nilT ?_
          go_wp2
          go_ret
          obtain ⟨a, ha, hr⟩ := HFIN.out (w0.heap.size + 1 + 1) (w0.heap.size) (w0.heap.size + 1 + 1 + 1) (w0.heap.size + 1) (by omega) (by omega) (by omega) (by omega) (by omega) (by omega) (by omega) (by omega) (by omega) (by omega)
          exact ⟨a, by rw [ha]; rfl, hr⟩
        exact noT
      refine fkT (by rfl) (by rfl) (fun K hK => ?_) ?_
      · go_wp2_with fail
        refine hK _ _ (Lib.hid (HS.out.alloc (by have := HS.out.size; simpa using this) _)) ?_
        clear hK
        have HS := Lib.hid (HS.out.alloc (by have := HS.out.size; simpa using this) (.map #[] 0))
        refine fkT (by rfl) (by rfl) (fun K hK => ?_) ?_
        · go_wp2_with fail
          refine hK _ _ (Lib.hid (HS.out.alloc (by have := HS.out.size; simpa using this) _)) ?_
          clear hK
          have HS := Lib.hid (HS.out.alloc (by have := HS.out.size; simpa using this) (.map #[] 0))
          refine hdT ?_ ?_ (by rfl) (by rfl) (fun w' s1 => ?_) ?_ ?_
          rotate_left 2
          focus (go_simp; exact rfl)
          focus (go_simp; exact rfl)
          refine fkT (by rfl) (by rfl) (fun K hK => ?_) noT
          go_wp2_with fail
          refine hK _ _ (by first | exact Lib.hid (HS.out.alloc (by have := HS.out.size; simpa using this) _)) ?_
          refine hdT ?_ ?_ (by rfl) (by rfl) (fun w' s1 => ?_) ?_ ?_
          rotate_left 2
          focus (go_simp; exact rfl)
          focus (go_simp; exact rfl)
          refine nilT ?_
          go_wp2
          go_ret
          obtain ⟨a, ha, hr⟩ := HFIN.out (w0.heap.size + 1 + 1 + 1) (w0.heap.size) (w0.heap.size + 1 + 1) (w0.heap.size + 1) (by omega) (by omega) (by omega) (by omega) (by omega) (by omega) (by omega) (by omega) (by omega) (by omega)
          exact ⟨a, by rw [ha]; rfl, hr⟩
        exact noT
      exact noT
    exact noT
  refine fkT (by rfl) (by rfl) (fun K hK => ?_) ?_
  · go_wp2_with fail
    refine hK _ _ (Lib.hid (HS.out.alloc (by have := HS.out.size; simpa using this) _)) ?_
    clear hK
    have HS := Lib.hid (HS.out.alloc (by have := HS.out.size; simpa using this) (.map #[] 0))
    refine fkT (by rfl) (by rfl) (fun K hK => ?_) ?_
    · go_wp2_with fail
      refine hK _ _ (Lib.hid (HS.out.alloc (by have := HS.out.size; simpa using this) _)) ?_
      clear hK
      have HS := Lib.hid (HS.out.alloc (by have := HS.out.size; simpa using this) (.map #[] 0))
      refine fkT (by rfl) (by rfl) (fun K hK => ?_) ?_
      · go_wp2_with fail
        refine hK _ _ (Lib.hid (HS.out.alloc (by have := HS.out.size; simpa using this) _)) ?_
        clear hK
        have HS := Lib.hid (HS.out.alloc (by have := HS.out.size; simpa using this) (.map #[] 0))
        refine fkT (by rfl) (by rfl) (fun K hK => ?_) ?_
        · go_wp2_with fail
          refine hK _ _ (Lib.hid (HS.out.alloc (by have := HS.out.size; simpa using this) _)) ?_
          clear hK
          have HS := Lib.hid (HS.out.alloc (by have := HS.out.size; simpa using this) (.map #[] 0))
          refine hdT ?_ ?_ (by rfl) (by rfl) (fun w' s1 => ?_) ?_ ?_
          rotate_left 2
          focus (go_simp; exact rfl)
          focus (go_simp; exact rfl)
          refine fkT (by rfl) (by rfl) (fun K hK => ?_) noT
          go_wp2_with fail
          refine hK _ _ (by first | exact Lib.hid (HS.out.alloc (by have := HS.out.size; simpa using this) _)) ?_
          refine hdT ?_ ?_ (by rfl) (by rfl) (fun w' s1 => ?_) ?_ ?_
          rotate_left 2
          focus (go_simp; exact rfl)
          focus (go_simp; exact rfl)
          refine nilT ?_
          go_wp2
          go_ret
          obtain ⟨a, ha, hr⟩ := HFIN.out (w0.heap.size + 1) (w0.heap.size + 1 + 1) (w0.heap.size) (w0.heap.size + 1 + 1 + 1) (by omega) (by omega) (by omega) (by omega) (by omega) (by omega) (by omega) (by omega) (by omega) (by omega)
          exact ⟨a, by rw [ha]; rfl, hr⟩
        exact noT
      refine fkT (by rfl) (by rfl) (fun K hK => ?_) ?_
      · go_wp2_with fail
        refine hK _ _ (Lib.hid (HS.out.alloc (by have := HS.out.size; simpa using this) _)) ?_
        clear hK
        have HS := Lib.hid (HS.out.alloc (by have := HS.out.size; simpa using this) (.map #[] 0))
        refine fkT (by rfl) (by rfl) (fun K hK => ?_) ?_
        · go_wp2_with fail
          refine hK _ _ (Lib.hid (HS.out.alloc (by have := HS.out.size; simpa using this) _)) ?_
          clear hK
          have HS := Lib.hid (HS.out.alloc (by have := HS.out.size; simpa using this) (.map #[] 0))
          refine hdT ?_ ?_ (by rfl) (by rfl) (fun w' s1 => ?_) ?_ ?_
          rotate_left 2
          focus (go_simp; exact rfl)
          focus (go_simp; exact rfl)
          refine fkT (by rfl) (by rfl) (fun K hK => ?_) noT
          go_wp2_with fail
          refine hK _ _ (by first | exact Lib.hid (HS.out.alloc (by have := HS.out.size; simpa using this) _)) ?_
          refine hdT ?_ ?_ (by rfl) (by rfl) (fun w' s1 => ?_) ?_ ?_
          rotate_left 2
          focus (go_simp; exact rfl)
          focus (go_simp; exact rfl)
          refine nilT ?_
          go_wp2
          go_ret
          obtain ⟨a, ha, hr⟩ := HFIN.out (w0.heap.size + 1) (w0.heap.size + 1 + 1 + 1) (w0.heap.size) (w0.heap.size + 1 + 1) (by omega) (by omega) (by omega) (by omega) (by omega) (by omega) (by omega) (by omega) (by omega) (by omega)
          exact ⟨a, by rw [ha]; rfl, hr⟩
        exact noT
      exact noT
    refine fkT (by rfl) (by rfl) (fun K hK => ?_) ?_
    · go_wp2_with fail
      refine hK _ _ (Lib.hid (HS.out.alloc (by have := HS.out.size; simpa using this) _)) ?_
      clear hK
      have HS := Lib.hid (HS.out.alloc (by have := HS.out.size; simpa using this) (.map #[] 0))
      refine fkT (by rfl) (by rfl) (fun K hK => ?_) ?_
      · go_wp2_with fail
        refine hK _ _ (Lib.hid (HS.out.alloc (by have := HS.out.size; simpa using this) _)) ?_
        clear hK
        have HS := Lib.hid (HS.out.alloc (by have := HS.out.size; simpa using this) (.map #[] 0))
        refine fkT (by rfl) (by rfl) (fun K hK => ?_) ?_
        · go_wp2_with fail
          refine hK _ _ (Lib.hid (HS.out.alloc (by have := HS.out.size; simpa using this) _)) ?_
          clear hK
          have HS := Lib.hid (HS.out.alloc (by have := HS.out.size; simpa using this) (.map #[] 0))
          refine hdT ?_ ?_ (by rfl) (by rfl) (fun w' s1 => ?_) ?_ ?_
          rotate_left 2
          focus (go_simp; exact rfl)
          focus (go_simp; exact rfl)
          refine fkT (by rfl) (by rfl) (fun K hK => ?_) noT
          go_wp2_with fail
          refine hK _ _ (by first | exact Lib.hid (HS.out.alloc (by have := HS.out.size; simpa using this) _)) ?_
          refine hdT ?_ ?_ (by rfl) (by rfl) (fun w' s1 => ?_) ?_ ?_
          rotate_left 2
          focus (go_simp; exact rfl)
          focus (go_simp; exact rfl)
          refine nilT ?_
          go_wp2
          go_ret
          obtain ⟨a, ha, hr⟩ := HFIN.out (w0.heap.size + 1 + 1) (w0.heap.size + 1) (w0.heap.size) (w0.heap.size + 1 + 1 + 1) (by omega) (by omega) (by omega) (by omega) (by omega) (by omega) (by omega) (by omega) (by omega) (by omega)
          exact ⟨a, by rw [ha]; rfl, hr⟩
        exact noT
      refine fkT (by rfl) (by rfl) (fun K hK => ?_) ?_
      · go_wp2_with fail
        refine hK _ _ (Lib.hid (HS.out.alloc (by have := HS.out.size; simpa using this) _)) ?_
        clear hK
        have HS := Lib.hid (HS.out.alloc (by have := HS.out.size; simpa using this) (.map #[] 0))
        refine fkT (by rfl) (by rfl) (fun K hK => ?_) ?_
        · go_wp2_with fail
          refine hK _ _ (Lib.hid (HS.out.alloc (by have := HS.out.size; simpa using this) _)) ?_
          clear hK
          have HS := Lib.hid (HS.out.alloc (by have := HS.out.size; simpa using this) (.map #[] 0))
          refine hdT ?_ ?_ (by rfl) (by rfl) (fun w' s1 => ?_) ?_ ?_
          rotate_left 2
          focus (go_simp; exact rfl)
          focus (go_simp; exact rfl)
          refine fkT (by rfl) (by rfl) (fun K hK => ?_) noT
          go_wp2_with fail
          refine hK _ _ (by first | exact Lib.hid (HS.out.alloc (by have := HS.out.size; simpa using this) _)) ?_
          refine hdT ?_ ?_ (by rfl) (by rfl) (fun w' s1 => ?_) ?_ ?_
          rotate_left 2
          focus (go_simp; exact rfl)
          focus (go_simp; exact rfl)
          refine nilT ?_
          go_wp2
          go_ret
          obtain ⟨a, ha, hr⟩ := HFIN.out (w0.heap.size + 1 + 1 + 1) (w0.heap.size + 1) (w0.heap.size) (w0.heap.size + 1 + 1) (by omega) (by omega) (by omega) (by omega) (by omega) (by omega) (by omega) (by omega) (by omega) (by omega)
          exact ⟨a, by rw [ha]; rfl, hr⟩
        exact noT
      exact noT
    refine fkT (by rfl) (by rfl) (fun K hK => ?_) ?_
    · go_wp2_with fail
      refine hK _ _ (Lib.hid (HS.out.alloc (by have := HS.out.size; simpa using this) _)) ?_
      clear hK
      have HS := Lib.hid (HS.out.alloc (by have := HS.out.size; simpa using this) (.map #[] 0))
      refine fkT (by rfl) (by rfl) (fun K hK => ?_) ?_
      · go_wp2_with fail
        refine hK _ _ (Lib.hid (HS.out.alloc (by have := HS.out.size; simpa using this) _)) ?_
        clear hK
        have HS := Lib.hid (HS.out.alloc (by have := HS.out.size; simpa using this) (.map #[] 0))
        refine fkT (by rfl) (by rfl) (fun K hK => ?_) ?_
        · go_wp2_with fail
          refine hK _ _ (Lib.hid (HS.out.alloc (by have := HS.out.size; simpa using this) _)) ?_
          clear hK
          have HS := Lib.hid (HS.out.alloc (by have := HS.out.size; simpa using this) (.map #[] 0))
          refine hdT ?_ ?_ (by rfl) (by rfl) (fun w' s1 => ?_) ?_ ?_
          rotate_left 2
          focus (go_simp; exact rfl)
          focus (go_simp; exact rfl)
          refine fkT (by rfl) (by rfl) (fun K hK => ?_) noT
          go_wp2_with fail
          refine hK _ _ (by first | exact Lib.hid (HS.out.alloc (by have := HS.out.size; simpa using this) _)) ?_
          refine hdT ?_ ?_ (by rfl) (by rfl) (fun w' s1 => ?_) ?_ ?_
          rotate_left 2
          focus (go_simp; exact rfl)
          focus (go_simp; exact rfl)
          refine nilT ?_
          go_wp2
          go_ret
          obtain ⟨a, ha, hr⟩ := HFIN.out (w0.heap.size + 1 + 1) (w0.heap.size + 1 + 1 + 1) (w0.heap.size) (w0.heap.size + 1) (by omega) (by omega) (by omega) (by omega) (by omega) (by omega) (by omega) (by omega) (by omega) (by omega)
          exact ⟨a, by rw [ha]; rfl, hr⟩
        exact noT
      refine fkT (by rfl) (by rfl) (fun K hK => ?_) ?_
      · go_wp2_with fail
        refine hK _ _ (Lib.hid (HS.out.alloc (by have := HS.out.size; simpa using this) _)) ?_
        clear hK
        have HS := Lib.hid (HS.out.alloc (by have := HS.out.size; simpa using this) (.map #[] 0))
        refine fkT (by rfl) (by rfl) (fun K hK => ?_) ?_
        · go_wp2_with fail
          refine hK _ _ (Lib.hid (HS.out.alloc (by have := HS.out.size; simpa using this) _)) ?_
          clear hK
          have HS := Lib.hid (HS.out.alloc (by have := HS.out.size; simpa using this) (.map #[] 0))
          refine hdT ?_ ?_ (by rfl) (by rfl) (fun w' s1 => ?_) ?_ ?_
          rotate_left 2
          focus (go_simp; exact rfl)
          focus (go_simp; exact rfl)
          refine fkT (by rfl) (by rfl) (fun K hK => ?_) noT
          go_wp2_with fail
          refine hK _ _ (by first | exact Lib.hid (HS.out.alloc (by have := HS.out.size; simpa using this) _)) ?_
          refine hdT ?_ ?_ (by rfl) (by rfl) (fun w' s1 => ?_) ?_ ?_
          rotate_left 2
          focus (go_simp; exact rfl)
          focus (go_simp; exact rfl)
          refine nilT ?_
          go_wp2
          go_ret
          obtain ⟨a, ha, hr⟩ := HFIN.out (w0.heap.size + 1 + 1 + 1) (w0.heap.size + 1 + 1) (w0.heap.size) (w0.heap.size + 1) (by omega) (by omega) (by omega) (by omega) (by omega) (by omega) (by omega) (by omega) (by omega) (by omega)
          exact ⟨a, by rw [ha]; rfl, hr⟩
        exact noT
      exact noT
    exact noT
  refine fkT (by rfl) (by rfl) (fun K hK => ?_) ?_
  · go_wp2_with fail
    refine hK _ _ (Lib.hid (HS.out.alloc (by have := HS.out.size; simpa using this) _)) ?_
    clear hK
    have HS := Lib.hid (HS.out.alloc (by have := HS.out.size; simpa using this) (.map #[] 0))
    refine fkT (by rfl) (by rfl) (fun K hK => ?_) ?_
    · go_wp2_with fail
      refine hK _ _ (Lib.hid (HS.out.alloc (by have := HS.out.size; simpa using this) _)) ?_
      clear hK
      have HS := Lib.hid (HS.out.alloc (by have := HS.out.size; simpa using this) (.map #[] 0))
      refine fkT (by rfl) (by rfl) (fun K hK => ?_) ?_
      · go_wp2_with fail
        refine hK _ _ (Lib.hid (HS.out.alloc (by have := HS.out.size; simpa using this) _)) ?_
        clear hK
        have HS := Lib.hid (HS.out.alloc (by have := HS.out.size; simpa using this) (.map #[] 0))
        refine fkT (by rfl) (by rfl) (fun K hK => ?_) ?_
        · go_wp2_with fail
          refine hK _ _ (Lib.hid (HS.out.alloc (by have := HS.out.size; simpa using this) _)) ?_
          clear hK
          have HS := Lib.hid (HS.out.alloc (by have := HS.out.size; simpa using this) (.map #[] 0))
          refine hdT ?_ ?_ (by rfl) (by rfl) (fun w' s1 => ?_) ?_ ?_
          rotate_left 2
          focus (go_simp; exact rfl)
          focus (go_simp; exact rfl)
          refine fkT (by rfl) (by rfl) (fun K hK => ?_) noT
          go_wp2_with fail
          refine hK _ _ (by first | exact Lib.hid (HS.out.alloc (by have := HS.out.size; simpa using this) _)) ?_
          refine hdT ?_ ?_ (by rfl) (by rfl) (fun w' s1 => ?_) ?_ ?_
          rotate_left 2
          focus (go_simp; exact rfl)
          focus (go_simp; exact rfl)
          refine nilT ?_
          go_wp2
          go_ret
          obtain ⟨a, ha, hr⟩ := HFIN.out (w0.heap.size + 1) (w0.heap.size + 1 + 1) (w0.heap.size + 1 + 1 + 1) (w0.heap.size) (by omega) (by omega) (by omega) (by omega) (by omega) (by omega) (by omega) (by omega) (by omega) (by omega)
          exact ⟨a, by rw [ha]; rfl, hr⟩
        exact noT
      refine fkT (by rfl) (by rfl) (fun K hK => ?_) ?_
      · go_wp2_with fail
        refine hK _ _ (Lib.hid (HS.out.alloc (by have := HS.out.size; simpa using this) _)) ?_
        clear hK
        have HS := Lib.hid (HS.out.alloc (by have := HS.out.size; simpa using this) (.map #[] 0))
        refine fkT (by rfl) (by rfl) (fun K hK => ?_) ?_
        · go_wp2_with fail
          refine hK _ _ (Lib.hid (HS.out.alloc (by have := HS.out.size; simpa using this) _)) ?_
          clear hK
          have HS := Lib.hid (HS.out.alloc (by have := HS.out.size; simpa using this) (.map #[] 0))
          refine hdT ?_ ?_ (by rfl) (by rfl) (fun w' s1 => ?_) ?_ ?_
          rotate_left 2
          focus (go_simp; exact rfl)
          focus (go_simp; exact rfl)
          refine fkT (by rfl) (by rfl) (fun K hK => ?_) noT
          go_wp2_with fail
          refine hK _ _ (by first | exact Lib.hid (HS.out.alloc (by have := HS.out.size; simpa using this) _)) ?_
          refine hdT ?_ ?_ (by rfl) (by rfl) (fun w' s1 => ?_) ?_ ?_
          rotate_left 2
          focus (go_simp; exact rfl)
          focus (go_simp; exact rfl)
          refine nilT ?_
          go_wp2
          go_ret
          obtain ⟨a, ha, hr⟩ := HFIN.out (w0.heap.size + 1) (w0.heap.size + 1 + 1 + 1) (w0.heap.size + 1 + 1) (w0.heap.size) (by omega) (by omega) (by omega) (by omega) (by omega) (by omega) (by omega) (by omega) (by omega) (by omega)
          exact ⟨a, by rw [ha]; rfl, hr⟩
        exact noT
      exact noT
    refine fkT (by rfl) (by rfl) (fun K hK => ?_) ?_
    · go_wp2_with fail
      refine hK _ _ (Lib.hid (HS.out.alloc (by have := HS.out.size; simpa using this) _)) ?_
      clear hK
      have HS := Lib.hid (HS.out.alloc (by have := HS.out.size; simpa using this) (.map #[] 0))
      refine fkT (by rfl) (by rfl) (fun K hK => ?_) ?_
      · go_wp2_with fail
        refine hK _ _ (Lib.hid (HS.out.alloc (by have := HS.out.size; simpa using this) _)) ?_
        clear hK
        have HS := Lib.hid (HS.out.alloc (by have := HS.out.size; simpa using this) (.map #[] 0))
        refine fkT (by rfl) (by rfl) (fun K hK => ?_) ?_
        · go_wp2_with fail
          refine hK _ _ (Lib.hid (HS.out.alloc (by have := HS.out.size; simpa using this) _)) ?_
          clear hK
          have HS := Lib.hid (HS.out.alloc (by have := HS.out.size; simpa using this) (.map #[] 0))
          refine hdT ?_ ?_ (by rfl) (by rfl) (fun w' s1 => ?_) ?_ ?_
          rotate_left 2
          focus (go_simp; exact rfl)
          focus (go_simp; exact rfl)
          refine fkT (by rfl) (by rfl) (fun K hK => ?_) noT
          go_wp2_with fail
          refine hK _ _ (by first | exact Lib.hid (HS.out.alloc (by have := HS.out.size; simpa using this) _)) ?_
          refine hdT ?_ ?_ (by rfl) (by rfl) (fun w' s1 => ?_) ?_ ?_
          rotate_left 2
          focus (go_simp; exact rfl)
          focus (go_simp; exact rfl)
          refine nilT ?_
          go_wp2
          go_ret
          obtain ⟨a, ha, hr⟩ := HFIN.out (w0.heap.size + 1 + 1) (w0.heap.size + 1) (w0.heap.size + 1 + 1 + 1) (w0.heap.size) (by omega) (by omega) (by omega) (by omega) (by omega) (by omega) (by omega) (by omega) (by omega) (by omega)
          exact ⟨a, by rw [ha]; rfl, hr⟩
        exact noT
      refine fkT (by rfl) (by rfl) (fun K hK => ?_) ?_
      · go_wp2_with fail
        refine hK _ _ (Lib.hid (HS.out.alloc (by have := HS.out.size; simpa using this) _)) ?_
        clear hK
        have HS := Lib.hid (HS.out.alloc (by have := HS.out.size; simpa using this) (.map #[] 0))
        refine fkT (by rfl) (by rfl) (fun K hK => ?_) ?_
        · go_wp2_with fail
          refine hK _ _ (Lib.hid (HS.out.alloc (by have := HS.out.size; simpa using this) _)) ?_
          clear hK
          have HS := Lib.hid (HS.out.alloc (by have := HS.out.size; simpa using this) (.map #[] 0))
          refine hdT ?_ ?_ (by rfl) (by rfl) (fun w' s1 => ?_) ?_ ?_
          rotate_left 2
          focus (go_simp; exact rfl)
          focus (go_simp; exact rfl)
          refine fkT (by rfl) (by rfl) (fun K hK => ?_) noT
          go_wp2_with fail
          refine hK _ _ (by first | exact Lib.hid (HS.out.alloc (by have := HS.out.size; simpa using this) _)) ?_
          refine hdT ?_ ?_ (by rfl) (by rfl) (fun w' s1 => ?_) ?_ ?_
          rotate_left 2
          focus (go_simp; exact rfl)
          focus (go_simp; exact rfl)
          refine nilT ?_
          go_wp2
          go_ret
          obtain ⟨a, ha, hr⟩ := HFIN.out (w0.heap.size + 1 + 1 + 1) (w0.heap.size + 1) (w0.heap.size + 1 + 1) (w0.heap.size) (by omega) (by omega) (by omega) (by omega) (by omega) (by omega) (by omega) (by omega) (by omega) (by omega)
          exact ⟨a, by rw [ha]; rfl, hr⟩
        exact noT
      exact noT
    refine fkT (by rfl) (by rfl) (fun K hK => ?_) ?_
    · go_wp2_with fail
      refine hK _ _ (Lib.hid (HS.out.alloc (by have := HS.out.size; simpa using this) _)) ?_
      clear hK
      have HS := Lib.hid (HS.out.alloc (by have := HS.out.size; simpa using this) (.map #[] 0))
      refine fkT (by rfl) (by rfl) (fun K hK => ?_) ?_
      · go_wp2_with fail
        refine hK _ _ (Lib.hid (HS.out.alloc (by have := HS.out.size; simpa using this) _)) ?_
        clear hK
        have HS := Lib.hid (HS.out.alloc (by have := HS.out.size; simpa using this) (.map #[] 0))
        refine fkT (by rfl) (by rfl) (fun K hK => ?_) ?_
        · go_wp2_with fail
          refine hK _ _ (Lib.hid (HS.out.alloc (by have := HS.out.size; simpa using this) _)) ?_
          clear hK
          have HS := Lib.hid (HS.out.alloc (by have := HS.out.size; simpa using this) (.map #[] 0))
          refine hdT ?_ ?_ (by rfl) (by rfl) (fun w' s1 => ?_) ?_ ?_
          rotate_left 2
          focus (go_simp; exact rfl)
          focus (go_simp; exact rfl)
          refine fkT (by rfl) (by rfl) (fun K hK => ?_) noT
          go_wp2_with fail
          refine hK _ _ (by first | exact Lib.hid (HS.out.alloc (by have := HS.out.size; simpa using this) _)) ?_
          refine hdT ?_ ?_ (by rfl) (by rfl) (fun w' s1 => ?_) ?_ ?_
          rotate_left 2
          focus (go_simp; exact rfl)
          focus (go_simp; exact rfl)
          refine nilT ?_
          go_wp2
          go_ret
          obtain ⟨a, ha, hr⟩ := HFIN.out (w0.heap.size + 1 + 1) (w0.heap.size + 1 + 1 + 1) (w0.heap.size + 1) (w0.heap.size) (by omega) (by omega) (by omega) (by omega) (by omega) (by omega) (by omega) (by omega) (by omega) (by omega)
          exact ⟨a, by rw [ha]; rfl, hr⟩
        exact noT
      refine fkT (by rfl) (by rfl) (fun K hK => ?_) ?_
      · go_wp2_with fail
        refine hK _ _ (Lib.hid (HS.out.alloc (by have := HS.out.size; simpa using this) _)) ?_
        clear hK
        have HS := Lib.hid (HS.out.alloc (by have := HS.out.size; simpa using this) (.map #[] 0))
        refine fkT (by rfl) (by rfl) (fun K hK => ?_) ?_
        · go_wp2_with fail
          refine hK _ _ (Lib.hid (HS.out.alloc (by have := HS.out.size; simpa using this) _)) ?_
          clear hK
          have HS := Lib.hid (HS.out.alloc (by have := HS.out.size; simpa using this) (.map #[] 0))
          refine hdT ?_ ?_ (by rfl) (by rfl) (fun w' s1 => ?_) ?_ ?_
          rotate_left 2
          focus (go_simp; exact rfl)
          focus (go_simp; exact rfl)
          refine fkT (by rfl) (by rfl) (fun K hK => ?_) noT
          go_wp2_with fail
          refine hK _ _ (by first | exact Lib.hid (HS.out.alloc (by have := HS.out.size; simpa using this) _)) ?_
          refine hdT ?_ ?_ (by rfl) (by rfl) (fun w' s1 => ?_) ?_ ?_
          rotate_left 2
          focus (go_simp; exact rfl)
          focus (go_simp; exact rfl)
          refine nilT ?_
          go_wp2
          go_ret
          obtain ⟨a, ha, hr⟩ := HFIN.out (w0.heap.size + 1 + 1 + 1) (w0.heap.size + 1 + 1) (w0.heap.size + 1) (w0.heap.size) (by omega) (by omega) (by omega) (by omega) (by omega) (by omega) (by omega) (by omega) (by omega) (by omega)
          exact ⟨a, by rw [ha]; rfl, hr⟩
        exact noT
      exact noT
    exact noT
  exact noT
end
end Go.Proofs.YtblkehdpenfhjaaGreatDoor
/-
  An engine made on a new store.
-/
set_option linter.unusedVariables false
set_option linter.unusedSimpArgs false
namespace Go.Proofs.YtblkehdpenfhjaaGreatDoor
open Go.RowKit Go.Maps Go.ChangeMaps Go.MapKept

section
variable {w w' : World} {a : EA} {D : ED} {X Y : Nat → Prop} {room : Nat} {now disk : Recs} {log : List Value} {F : Nat → Prop} {sb age : Nat}
set_option maxHeartbeats 8000000 in
set_option maxRecDepth 100000 in
theorem make_calls {W B space : Nat} (hW1 : 1 ≤ W) (hW2 : W ≤ 32) (hB : B ≤ 10) (hsp : space < 9223372036854775808) (hag : age < 4611686018427387904)
    (h : StoreAt w sb room [] disk log age F) (hl : ∀ b, F b → b < w.heap.size) (hG : Glob w) (hgf : ∀ b, GlobB b → ¬ F b) :
    Calls Tryz.prog 57 #[.pointer (some ⟨sb, 0, none⟩), optV W B, .int .i64 space] w fun r w' => ∃ a : EA, r = .returned (.tuple #[.pointer (some ⟨a.eb, 0, none⟩), .int .i64 0]) ∧ a.sb = sb ∧ Sys w' a (D0 W B space age) room [] disk log F ∧ Below w.heap.size w w' ∧ ∀ b, a.own b → w.heap.size ≤ b := by
  obtain ⟨w0, hw0⟩ : ∃ w0, w0 = w.alloc (.cells #[.int .i64 3, .int .i64 W, .int .i64 0, .int .i64 0, .int .i64 0, .int .i64 B] 25) := ⟨_, rfl⟩
  have hb0 : Below w.heap.size w w0 := by rw [hw0]; exact (Below.refl _ _).alloc (Nat.le_refl _) _
  have hbx : w0.heap[w.heap.size]? = some (.cells #[.int .i64 3, .int .i64 W, .int .i64 0, .int .i64 0, .int .i64 0, .int .i64 B] 25 (0, 0)) := by rw [hw0]; exact (MapKept.heap_alloc w _).1
  have hlt : w.heap.size < w0.heap.size := block_lt hbx
  have HC := Lib.hid (fun w' (hb : Below w0.heap.size w0 w') (k : Nat) => hb.cell (p := ⟨w.heap.size, k, none⟩) hlt)
  have HC0 := Lib.hid (fun (k : Nat) (hk : k < 6) => cell_of_block (off := k) hbx hk)
  have HB0 := Lib.hid hb0
  have HA := Lib.hid ((asked_calls (h.below hb0) W B hW1 hW2 hB space))
  have HWP := Lib.hid (fun w' (hb : Below w0.heap.size w0 w') => wipe_none_calls (h.below (hb0.trans (hb.mono hb0.size))) space hsp)
  have HBG := Lib.hid (fun w' (hb : Below w.heap.size w w') => begin_calls hW1 hW2 hB hsp hag (h.below hb) (fun b hF => Nat.lt_of_lt_of_le (hl b hF) hb.size) (hG.keep hb) hgf)
  have d0 := HC0.out 0 (by decide)
  have d1 := HC0.out 1 (by decide)
  have d2 := HC0.out 2 (by decide)
  have d3 := HC0.out 3 (by decide)
  have d4 := HC0.out 4 (by decide)
  have d5 := HC0.out 5 (by decide)
  dsimp only [List.getElem_toArray, List.getElem_cons_zero, List.getElem_cons_succ] at d0 d1 d2 d3 d4 d5
  clear hW1 hW2 hB hsp hag h hl hG hgf hbx hlt hb0
  unfold optV at *
  go_enter Tryz.func57, Tryz.ntmps57
  go_wp2_with fail
  try rw [← hw0]
  refine (HA.out).mono ?_
  rintro r w1 ⟨rfl, hb1⟩
  have HB1 := Lib.hid hb1
  clear hb1 d0 d1 d2 d3 d4 d5
  go_wp2_with fail
  refine (HWP.out w1 HB1.out).mono ?_
  rintro r w2 ⟨rfl, hb2⟩
  have HB2 := Lib.hid (HB1.out.trans (hb2.mono HB1.out.size))
  clear hb2
  have d0 := (HC.out w2 HB2.out 0).trans (HC0.out 0 (by decide))
  have d1 := (HC.out w2 HB2.out 1).trans (HC0.out 1 (by decide))
  have d2 := (HC.out w2 HB2.out 2).trans (HC0.out 2 (by decide))
  have d3 := (HC.out w2 HB2.out 3).trans (HC0.out 3 (by decide))
  have d4 := (HC.out w2 HB2.out 4).trans (HC0.out 4 (by decide))
  have d5 := (HC.out w2 HB2.out 5).trans (HC0.out 5 (by decide))
  dsimp only [List.getElem_toArray, List.getElem_cons_zero, List.getElem_cons_succ] at d0 d1 d2 d3 d4 d5
  have HB3 := Lib.hid (HB0.out.trans (HB2.out.mono HB0.out.size))
  go_wp2_with fail
  refine (HBG.out w2 HB3.out).mono ?_
  rintro r w3 ⟨a, rfl, hr1, hr2, hr3, hr4⟩
  have HR := Lib.hid (And.intro hr1 (And.intro hr2 (And.intro (HB3.out.trans (hr3.mono HB3.out.size)) (fun b hb => Nat.le_trans HB3.out.size (hr4 b hb)))))
  clear hr1 hr2 hr3 hr4
  go_wp2
  go_ret2
  exact ⟨a, rfl, HR.out.1, HR.out.2.1, HR.out.2.2.1, HR.out.2.2.2⟩
end
end Go.Proofs.YtblkehdpenfhjaaGreatDoor
/-
  The laws' own small functions: within, opts, num, batch.
-/
set_option linter.unusedVariables false
set_option linter.unusedSimpArgs false
namespace Go.Proofs.YtblkehdpenfhjaaGreatDoor
open Go.RowKit Go.Maps Go.ChangeMaps Go.MapKept

section
variable {w w' : World} {X Y : Nat → Prop}
theorem num_calls (n : Int) (w : World) : Calls Tryz.prog 17 #[.int .i64 n] w fun r w' => r = .returned (.int .i64 n) ∧ w = w' := by
  go_enter Tryz.func17, Tryz.ntmps17
  go_wp2
  go_ret
  exact ⟨rfl, rfl⟩
def withinF (n lo hi : Int) : Int := if n < lo ∨ hi < n then lo else n
set_option maxRecDepth 100000 in
theorem within_calls (n lo hi : Int) (w : World) : Calls Tryz.prog 48 #[.int .i64 n, .int .i64 lo, .int .i64 hi] w fun r w' => r = .returned (.int .i64 (withinF n lo hi)) ∧ w = w' := by
  have HW := Lib.hid (show withinF n lo hi = withinF n lo hi from rfl)
  by_cases h1 : n < lo
  · go_enter Tryz.func48, Tryz.ntmps48
    go_wp2
    go_ret
    exact ⟨by rw [show withinF n lo hi = lo from if_pos (.inl h1)]; rfl, rfl⟩
  · by_cases h2 : hi < n
    · go_enter Tryz.func48, Tryz.ntmps48
      go_wp2
      go_ret
      exact ⟨by rw [show withinF n lo hi = lo from if_pos (.inr h2)]; rfl, rfl⟩
    · go_enter Tryz.func48, Tryz.ntmps48
      go_wp2
      go_ret
      exact ⟨by rw [show withinF n lo hi = n from if_neg (by omega)]; rfl, rfl⟩
set_option maxHeartbeats 4000000 in
set_option maxRecDepth 100000 in
theorem opts_calls (x y : Int) (w : World) : Calls Tryz.prog 10 #[.int .i64 x, .int .i64 y] w fun r w' => ∃ W B : Nat, r = .returned (optV W B) ∧ 1 ≤ W ∧ W ≤ 32 ∧ B ≤ 10 ∧ Below w.heap.size w w' := by
  obtain ⟨W, hW⟩ : ∃ W : Nat, withinF x 1 32 = (W : Int) ∧ 1 ≤ W ∧ W ≤ 32 := by
    refine ⟨(withinF x 1 32).toNat, ?_⟩
    unfold withinF
    split <;> omega
  obtain ⟨B, hB⟩ : ∃ B : Nat, withinF y 0 10 = (B : Int) ∧ B ≤ 10 := by
    refine ⟨(withinF y 0 10).toNat, ?_⟩
    unfold withinF
    split <;> omega
  have H1 := Lib.hid (fun w => within_calls x 1 32 w)
  have H2 := Lib.hid (fun w => within_calls y 0 10 w)
  rw [hW.1] at H1
  rw [hB.1] at H2
  have HF := Lib.hid (And.intro hW.2 hB.2)
  clear hW hB
  go_enter Tryz.func10, Tryz.ntmps10
  go_wp2_with fail
  refine (H1.out _).mono ?_
  rintro r w1 ⟨rfl, rfl⟩
  go_wp2_with fail
  refine (H2.out _).mono ?_
  rintro r w1 ⟨rfl, rfl⟩
  go_wp2
  refine bodyPost_ret (by simp [results, Tryz.results10, go_sem]; try rfl) rfl ?_
  exact ⟨W, B, rfl, HF.out.1.1, HF.out.1.2, HF.out.2, (Below.refl _ _).alloc (Nat.le_refl _) _⟩
set_option maxHeartbeats 8000000 in
set_option maxRecDepth 100000 in
theorem batch_calls (xs : List ByteArray) (hl : xs.length ≤ 140737488351232) {v : Value} (hv : SlIn w v (xs.map Value.string) X) :
    Calls Tryz.prog 46 #[v] w fun r w' => ∃ (ys : List ByteArray) (u : Value), r = .returned u ∧ ys.length ≤ 60 ∧ (∀ y ∈ ys, y.size ≤ 4096) ∧ w'.ownsRow w.heap.size 9 1 u ys.length (ys.map Value.string) ∧ Below w.heap.size w w' := by
  obtain ⟨i0, hi, hz0, hz1, hz2⟩ := info_parts infoS
  obtain ⟨A, cap, rfl, hcap, hcl⟩ := hv
  rw [List.length_map] at hcap ⊢
  obtain ⟨n, hn⟩ : ∃ n, n = xs.length := ⟨_, rfl⟩
  have HC := Lib.hid (show 0 < n → ∃ b o, A = some ⟨b, o, none⟩ ∧ b < w.heap.size ∧ ∀ i (h : i < xs.length), w.cell? ⟨b, o + i, none⟩ = some (.string xs[i]) from fun h => by
    obtain ⟨b, o, h1, h2, h3, h4⟩ := hcl (by rw [List.length_map, ← hn]; exact h)
    exact ⟨b, o, h1, h2, fun i hi => by rw [h4 i (by simpa using hi), List.getElem_map]⟩)
  have HN := Lib.hid hn
  rw [← hn] at hl hcap ⊢
  clear hn hcl
  go_enter Tryz.func46, Tryz.ntmps46
  go_wp2_with fail
  go_loopw [3, 4] (fun tv iv wr => ∃ (ys : List ByteArray) (k : Nat) (At : Option Addr) (ct : Nat), k = ys.length ∧ tv = .slice At k ct ∧ iv = .int .i64 (k : Int) ∧ k ≤ 60 ∧ k ≤ n ∧ Hid (∀ y ∈ ys, y.size ≤ 4096) ∧ Hid (wr.ownsRow w.heap.size 9 1 tv k (ys.map Value.string)) ∧ Hid (Below w.heap.size w wr)) (fun _ iv _ => 61 - (intOf iv).toNat)
  case atStart => exact ⟨[], 0, none, 0, rfl, rfl, rfl, by omega, by omega, Lib.hid (by simp), Lib.hid (World.ownsRow_nil _ _ _ _), Lib.hid (Below.refl _ _)⟩
  case round =>
    obtain ⟨ys, k, At, ct, hk, rfl, rfl, hk60, hkn, HY, HR, HB⟩ := hrel
    have HK := Lib.hid hk
    clear hk
    by_cases h1 : k < n
    · by_cases h2 : k < 60
      · obtain ⟨b, o, rfl, hb, hcells⟩ := HC.out (by omega)
        obtain ⟨x, hx⟩ : ∃ x, x = xs[k]'(by rw [← HN.out]; exact h1) := ⟨_, rfl⟩
        have hck : wr.cell? ⟨b, o + k, none⟩ = some (.string x) := (HB.out.cell (p := ⟨b, o + k, none⟩) hb).trans (by rw [hx]; exact hcells k (by rw [← HN.out]; exact h1))
        have hbr : b < wr.heap.size := Nat.lt_of_lt_of_le hb HB.out.size
        have HBR := Lib.hid hbr
        have hS : wr.drew.cell? ⟨b, o + k, none⟩ = some (.string x) := hck
        obtain ⟨us, hus⟩ : ∃ us, us = ys.map Value.string := ⟨_, rfl⟩
        have HUS := Lib.hid hus
        rw [← hus] at HR
        obtain ⟨m, hm⟩ : ∃ m, m = min x.size 4096 := ⟨_, rfl⟩
        have hmin : min (x.size : Int) 4096 = (m : Int) := by omega
        have hm1 : m ≤ x.size := by omega
        have HM := Lib.hid (show m ≤ 4096 by omega)
        clear hx hcells hb hbr hus hm
        go_wp2_with fail
        refine wp_region_tree (fun w' => w'.cell? ⟨b, o + k, none⟩ = some (.string x)) (.hd 0 (.hd 1 (.hd 2 (.hd 3 (.hd 4 (.hd 5 (.hd 6 (.hd 7 (.hd 8 (.hd 9 (.hd 10 (.hd 11 (.fk 12 (.fk 13 (.fk 14 .nil .no) .no) .no))))))))))))) (by kernel_rfl) (by kernel_rfl) (fun _ _ d _ _ h => by cases d <;> exact h) hS ?_
        iterate 9
          refine hdT ?_ ?_ (by rfl) (by rfl) (fun w' s1 => ?_) ?_ ?_
          rotate_left 2
          focus (go_simp; exact rfl)
          focus (go_simp; exact rfl)
        iterate 2
          refine hdT ?_ ?_ (by rfl) (by rfl) (fun w' s1 => ?_) ?_ ?_
          rotate_left 2
          focus (go_simp; exact rfl)
          focus (go_simp; exact rfl)
        refine hdT ?_ ?_ (by rfl) (by rfl) (fun w' s1 => ?_) ?_ ?_
        rotate_left 2
        focus (go_simp; exact rfl)
        focus (go_simp; exact rfl)
        obtain ⟨y, hy⟩ : ∃ y, y = x.extract 0 m := ⟨_, rfl⟩
        have HYS := Lib.hid (show y.size ≤ 4096 by rw [hy, ByteArray.size_extract]; have := HM.out; omega)
        rw [← hy]
        clear hy hmin hm1
        refine fkT (by rfl) (by rfl) (fun K hK => ?_) noT
        go_wp2_with fail
        refine hK _ _ (((Below.refl wr.heap.size wr).drew.alloc (Nat.le_refl _) _).cell (p := ⟨b, o + k, none⟩) HBR.out |>.trans hck) ?_
        clear hK hck hS
        refine fkTn (by kernel_rfl) (by rfl) (by rfl) (fun K hK => ?_) noT
        refine wp_append_lies _ (.tmp 15) (.tmp 27) 32 (by rfl) w.heap.size 9 i0 (.string ⟨#[]⟩) 1 16 Tryz.underlying32 hi hz0 hz1 hz2 rfl (by decide) _ _ _ (by rfl) ((own_keep HR.out (w' := wr.drew) fun _ _ _ => rfl).alloc _) ⟨wr.heap.size, 0, none⟩ 1 1 [Value.string y] (by rfl) (by rfl) (World.news_of_block (MapKept.heap_alloc wr.drew _).1) (by intro u hu; simp at hu; subst hu; rfl) (by decide) (by unfold maxLen; omega) (by omega) (by have := HB.out.size; simp; omega) _ rfl ?_
        intro g cap3 w4 hown4 hgrow hat hltg
        refine hK _ _ ?_
        clear hK
        have HR4 := Lib.hid (show w4.ownsRow w.heap.size 9 1 (.slice (some ⟨g, 0, none⟩) (k + 1) cap3) (k + 1) ((ys ++ [y]).map Value.string) by rw [List.map_append, ← HUS.out]; exact hown4)
        have HB4 := Lib.hid ((HB.out.drew.alloc HB.out.size _).grown hgrow (by have := HB.out.size; simp; omega) (fun k hk => own_ge HR.out hk))
        have HK4 := Lib.hid (show k + 1 = (ys ++ [y]).length by rw [List.length_append, ← HK.out]; rfl)
        have HY4 := Lib.hid (show ∀ z ∈ ys ++ [y], z.size ≤ 4096 from fun z hz => by
          rcases List.mem_append.1 hz with h | h
          · exact HY.out z h
          · rw [List.mem_singleton] at h; rw [h]; exact HYS.out)
        clear hown4 hgrow hat hltg
        refine fkTn (by kernel_rfl) (by rfl) (by rfl) (fun K hK => ?_) noT
        go_wp2_with fail
        refine nilT ?_
        go_wp2
        exact ⟨⟨ys ++ [y], k + 1, _, _, HK4.out, rfl, by congr 1, by omega, by omega, HY4, HR4, HB4⟩, by simp [intOf]; omega⟩
      · go_wp2
        go_ret
        exact ⟨ys, _, rfl, by rw [← HK.out]; exact hk60, HY.out, by rw [← HK.out]; exact HR.out, HB.out⟩
    · go_wp2
      go_ret
      exact ⟨ys, _, rfl, by rw [← HK.out]; exact hk60, HY.out, by rw [← HK.out]; exact HR.out, HB.out⟩
end
end Go.Proofs.YtblkehdpenfhjaaGreatDoor
/-
  The laws' own functions: batches, joined.
-/
set_option linter.unusedVariables false
set_option linter.unusedSimpArgs false
namespace Go.Proofs.YtblkehdpenfhjaaGreatDoor
open Go.RowKit Go.Maps Go.ChangeMaps Go.MapKept

section
variable {w w' : World} {X Y : Nat → Prop}
/-- what the laws append: at most 30 batches of 1 to 60 leaves -/
structure Batches (l : List (List ByteArray)) : Prop where
  few : l.length ≤ 30
  rows : ∀ r ∈ l, 1 ≤ r.length ∧ r.length ≤ 60 ∧ ∀ x ∈ r, x.size ≤ 4096
theorem Batches.nil : Batches [] := ⟨by simp, fun r h => by cases h⟩
theorem Batches.snoc {l : List (List ByteArray)} (h : Batches l) (hl : l.length < 30) {r : List ByteArray} (h1 : 1 ≤ r.length) (h2 : r.length ≤ 60) (h3 : ∀ x ∈ r, x.size ≤ 4096) : Batches (l ++ [r]) :=
  ⟨by rw [List.length_append]; simp; omega, fun q hq => by
    rcases List.mem_append.1 hq with h' | h'
    · exact h.rows q h'
    · rw [List.mem_singleton] at h'; subst h'; exact ⟨h1, h2, h3⟩⟩
/-- rows of strings, each in memory of its own -/
def BRows (w : World) (base : Nat) (tv : Value) (l : List (List ByteArray)) : Prop :=
  ∃ vs : List Value, w.ownsRow base 32 1 tv l.length vs ∧ vs.length = l.length ∧ ∀ k (h1 : k < vs.length) (h2 : k < l.length), SlIn w vs[k] (l[k].map Value.string) (fun b => base ≤ b ∧ tv.ownBlock ≠ some b)
theorem BRows.nil (w : World) (base : Nat) : BRows w base (.slice none 0 0) [] := ⟨[], World.ownsRow_nil _ _ _ _, rfl, fun k h1 => by simp at h1⟩
theorem BRows.below {base : Nat} {tv : Value} {l : List (List ByteArray)} (h : BRows w base tv l) (hb : Below w.heap.size w w') : BRows w' base tv l := by
  obtain ⟨vs, h1, h2, h3⟩ := h
  exact ⟨vs, own_keep h1 fun b cur hc => hb.block b (block_lt hc), h2, fun k hk1 hk2 => (h3 k hk1 hk2).keep hb.size fun b hlt _ => hb.block b hlt⟩
theorem BRows.grid {base : Nat} {tv : Value} {l : List (List ByteArray)} (h : BRows w base tv l) : GridIn w tv l (fun b => base ≤ b) := by
  obtain ⟨vs, h1, h2, h3⟩ := h
  have hs := SlIn.of_own h1
  exact ⟨vs, hs, h2, fun k hk1 hk2 => (h3 k hk1 hk2).mono fun b _ hb => hb.1⟩
theorem BRows.push {w1 w4 : World} {base g cap3 : Nat} {tv : Value} {l : List (List ByteArray)} {r : List ByteArray} {rv : Value} {vs : List Value} (h1 : w.ownsRow base 32 1 tv l.length vs) (h2 : vs.length = l.length) (h3 : ∀ k (h1 : k < vs.length) (h2 : k < l.length), SlIn w vs[k] (l[k].map Value.string) (fun b => base ≤ b ∧ tv.ownBlock ≠ some b)) (hb1 : Below w.heap.size w w1) (hr : SlIn w1 rv (r.map Value.string) (fun b => w.heap.size ≤ b)) (hbs : base ≤ w.heap.size)
    (hown : w4.ownsRow base 32 1 (.slice (some ⟨g, 0, none⟩) (l.length + 1) cap3) (l.length + 1) (vs ++ [rv]))
    (hT : Turn (fun b => tv.ownBlock = some b) w1 w4) (hat : tv.ownBlock = some g ∨ w1.heap.size ≤ g) : BRows w4 base (.slice (some ⟨g, 0, none⟩) (l.length + 1) cap3) (l ++ [r]) := by
  have key : ∀ (rv : Value) (us : List Value), SlIn w1 rv us (fun b => base ≤ b ∧ tv.ownBlock ≠ some b) → SlIn w4 rv us (fun b => base ≤ b ∧ (Value.slice (some ⟨g, 0, none⟩) (l.length + 1) cap3).ownBlock ≠ some b) := fun rv us hs =>
    (hs.here.keep hT.size fun b hb hX => hT.block b hb hX.1.2).mono fun b _ hX => ⟨hX.1.1, fun e => by
      have e2 : g = b := by simpa [Value.ownBlock] using e
      rcases hat with hh | hh
      · exact hX.1.2 (by rw [← e2]; exact hh)
      · have := hX.2; omega⟩
  refine ⟨vs ++ [rv], by rw [List.length_append]; exact hown, by rw [List.length_append, List.length_append, h2]; rfl, fun k hk1 hk2 => ?_⟩
  by_cases hk : k < vs.length
  · rw [List.getElem_append_left hk, List.getElem_append_left (by rw [← h2]; exact hk)]
    exact key _ _ ((h3 k hk (by rw [← h2]; exact hk)).keep hb1.size fun b hlt _ => hb1.block b hlt)
  · have he : k = vs.length := by rw [List.length_append] at hk1; simp at hk1; omega
    subst he
    rw [List.getElem_append_right (Nat.le_refl _), List.getElem_append_right (by omega)]
    simp only [Nat.sub_self, List.getElem_cons_zero, h2]
    refine key _ _ (hr.mono fun b _ hb => ⟨by omega, fun e => ?_⟩)
    obtain ⟨cur, hc⟩ := own_block h1 e
    have := block_lt hc
    omega
set_option maxHeartbeats 8000000 in
set_option maxRecDepth 100000 in
theorem batches_calls (g : List (List ByteArray)) (hl : g.length ≤ 140737488351232) (hr : ∀ r ∈ g, r.length ≤ 140737488351232) {v : Value} (hv : GridIn w v g X) :
    Calls Tryz.prog 11 #[v] w fun r w' => ∃ (l : List (List ByteArray)) (u : Value), r = .returned u ∧ Batches l ∧ BRows w' w.heap.size u l ∧ Below w.heap.size w w' := by
  obtain ⟨j0, hj0, hy0, hy1, hy2⟩ := info_parts infoSS
  obtain ⟨vs, ⟨A, cap, rfl, hcap, hcl⟩, hvl, hrows⟩ := hv
  obtain ⟨n, hn⟩ : ∃ n, n = vs.length := ⟨_, rfl⟩
  have HC := Lib.hid (show 0 < n → ∃ b o, A = some ⟨b, o, none⟩ ∧ b < w.heap.size ∧ ∀ i (h : i < vs.length), w.cell? ⟨b, o + i, none⟩ = some vs[i] from fun h => by
    obtain ⟨b, o, h1, h2, h3, h4⟩ := hcl (by rw [← hn]; exact h)
    exact ⟨b, o, h1, h2, h4⟩)
  have HN := Lib.hid (And.intro hn (hn.trans hvl))
  have HRW := Lib.hid hrows
  have HRL := Lib.hid hr
  have hln : n ≤ 140737488351232 := by rw [hn, hvl]; exact hl
  rw [← hn] at hcap ⊢
  clear hn hcl hvl hrows hl hr
  go_enter Tryz.func11, Tryz.ntmps11
  go_wp2_with fail
  go_loopw [3, 4] (fun tv iv wr => ∃ (l : List (List ByteArray)) (i k : Nat) (At : Option Addr) (ct : Nat), k = l.length ∧ tv = .slice At k ct ∧ iv = .int .i64 (i : Int) ∧ k ≤ 30 ∧ i ≤ n ∧ Hid (Batches l) ∧ Hid (BRows wr w.heap.size tv l) ∧ Hid (Below w.heap.size w wr)) (fun _ iv _ => n + 1 - (intOf iv).toNat)
  case atStart => exact ⟨[], 0, 0, none, 0, rfl, rfl, rfl, by omega, by omega, Lib.hid Batches.nil, Lib.hid (BRows.nil _ _), Lib.hid (Below.refl _ _)⟩
  case round =>
    obtain ⟨l, i, k, At, ct, hk, rfl, rfl, hk30, hin, HBT, HR, HB⟩ := hrel
    have HK := Lib.hid hk
    clear hk
    by_cases h1 : i < n
    · by_cases h2 : k < 30
      · obtain ⟨b, o, rfl, hb, hcells⟩ := HC.out (by omega)
        have hiv : i < vs.length := by rw [← HN.out.1]; exact h1
        have hig : i < g.length := by rw [← HN.out.2]; exact h1
        obtain ⟨rv, hrv⟩ : ∃ rv, rv = vs[i] := ⟨_, rfl⟩
        have hck : wr.cell? ⟨b, o + i, none⟩ = some rv := (HB.out.cell (p := ⟨b, o + i, none⟩) hb).trans (by rw [hrv]; exact hcells i hiv)
        have HBC := Lib.hid (batch_calls g[i] (HRL.out _ (List.getElem_mem hig)) (((HRW.out i hiv hig).keep HB.out.size fun b hlt _ => HB.out.block b hlt)))
        rw [← hrv] at HBC
        clear hrv hcells hb hiv hig
        go_wp2_with fail
        refine (HBC.out).mono ?_
        rintro r w1 ⟨ys, u, rfl, hy1, hy2, hy3, hb1⟩
        obtain ⟨Au, cu, rfl, hcu⟩ := own_form hy3
        obtain ⟨m, hm⟩ : ∃ m, m = ys.length := ⟨_, rfl⟩
        have HM := Lib.hid hm
        have HYS := Lib.hid (And.intro hy1 (And.intro hy2 (And.intro hy3 hb1)))
        rw [← hm]
        clear hm hy1 hy2 hy3 hb1 hcu hck
        have HB1 := Lib.hid (HB.out.trans (HYS.out.2.2.2.mono HB.out.size))
        by_cases hm0 : 0 < m
        · obtain ⟨us, q1, q2, q3⟩ := HR.out
          have HQ := Lib.hid (And.intro q1 (And.intro q2 q3))
          have HO1 := Lib.hid (show w1.ownsRow w.heap.size 32 1 (.slice At k ct) k us from by rw [← HK.out] at q1; exact own_keep q1 fun b cur hc => HYS.out.2.2.2.block b (block_lt hc))
          clear q1 q2 q3
          go_wp2_with (at_builtin; go_must (refine wpList_append_lies _ rfl (.tmp 25) (.tmp 27) 22 rfl w.heap.size 32 j0 (.slice none 0 0) 1 24 Tryz.underlying22 hj0 hy0 hy1 hy2 rfl (by decide) _ _ _ rfl (HO1.out.alloc _) ⟨w1.heap.size, 0, none⟩ 1 1 [.slice Au m cu] rfl rfl (World.news_of_block (MapKept.heap_alloc _ _).1) (by intro u hu; simp at hu; subst hu; rfl) (by decide) (by unfold maxLen; omega) (by omega) (by have := HB1.out.size; simp; omega) _ rfl ?_))
          intro g3 cap3 w4 hown4 hgrow hat hltg
          have HB4 := Lib.hid ((HB1.out.alloc HB1.out.size _).grown hgrow (by have := HB1.out.size; simp; omega) (fun k hk => own_ge HO1.out hk))
          have HAT := Lib.hid (show (Value.slice At k ct).ownBlock = some g3 ∨ w1.heap.size ≤ g3 from hat.imp _root_.id fun e => by first | omega | (simp at e; omega))
          have HR4 := Lib.hid (show BRows w4 w.heap.size (.slice (some ⟨g3, 0, none⟩) (k + 1) cap3) (l ++ [ys]) by
            rw [HK.out]
            exact BRows.push (w := wr) (w1 := w1) (rv := .slice Au m cu) HQ.out.1 HQ.out.2.1 HQ.out.2.2 HYS.out.2.2.2 (by have := SlIn.of_own HYS.out.2.2.1; rw [← HM.out] at this; exact this) HB.out.size (by rw [← HK.out]; exact hown4)
              (((Turn.refl _ _).alloc _).grown hgrow (fun b hb => .inl hb)) HAT.out)
          have HBT4 := Lib.hid (HBT.out.snoc (by rw [← HK.out]; exact h2) (by rw [← HM.out]; exact hm0) HYS.out.1 HYS.out.2.1)
          have HK4 := Lib.hid (show k + 1 = (l ++ [ys]).length by rw [List.length_append, ← HK.out]; rfl)
          clear hown4 hgrow hat hltg
          go_wp2
          exact ⟨⟨l ++ [ys], i + 1, k + 1, _, _, HK4.out, rfl, by congr 1, by omega, by omega, HBT4, HR4, HB4⟩, by simp [intOf]; omega⟩
        · have hmz : ¬ (0 < (m : Int)) := by omega
          have HR1 := Lib.hid (HR.out.below HYS.out.2.2.2)
          go_wp2
          exact ⟨⟨l, i + 1, k, _, _, HK.out, rfl, by congr 1, by omega, by omega, HBT, HR1, HB1⟩, by simp [intOf]; omega⟩
      · go_wp2
        go_ret
        exact ⟨l, _, rfl, HBT.out, HR.out, HB.out⟩
    · go_wp2
      go_ret
      exact ⟨l, _, rfl, HBT.out, HR.out, HB.out⟩
end
end Go.Proofs.YtblkehdpenfhjaaGreatDoor
/-
  The laws' own functions: joined.
-/
set_option linter.unusedVariables false
set_option linter.unusedSimpArgs false
namespace Go.Proofs.YtblkehdpenfhjaaGreatDoor
open Go.RowKit Go.Maps Go.ChangeMaps Go.MapKept

section
variable {w w' : World} {X Y : Nat → Prop}
theorem flat_take (l : List (List ByteArray)) (i : Nat) (h : i < l.length) : (l.take (i + 1)).flatten = (l.take i).flatten ++ l[i] := by
  rw [List.take_succ_eq_append_getElem h, List.flatten_append]
  simp
theorem flat_len {l : List (List ByteArray)} (h : ∀ r ∈ l, r.length ≤ 60) : l.flatten.length ≤ 60 * l.length := by
  induction l with
  | nil => simp
  | cons r l ih =>
    have h1 := h r (List.mem_cons_self)
    have h2 := ih fun q hq => h q (List.mem_cons_of_mem _ hq)
    simp only [List.flatten_cons, List.length_append, List.length_cons]
    omega
theorem Batches.take {l : List (List ByteArray)} (h : Batches l) (i : Nat) : (l.take i).flatten.length ≤ 60 * i ∧ (l.take i).flatten.length ≤ 1800 := by
  have h1 := flat_len (l := l.take i) fun r hr => (h.rows r (List.mem_of_mem_take hr)).2.1
  have h2 := h.few
  rw [List.length_take] at h1
  omega
set_option maxHeartbeats 8000000 in
set_option maxRecDepth 100000 in
theorem joined_calls (l : List (List ByteArray)) (hB : Batches l) {v : Value} (hv : GridIn w v l X) :
    Calls Tryz.prog 13 #[v] w fun r w' => ∃ (u : Value), r = .returned u ∧ w'.ownsRow w.heap.size 9 1 u l.flatten.length (l.flatten.map Value.string) ∧ Below w.heap.size w w' := by
  obtain ⟨i0, hi, hz0, hz1, hz2⟩ := info_parts infoS
  obtain ⟨vs, ⟨A, cap, rfl, hcap, hcl⟩, hvl, hrows⟩ := hv
  obtain ⟨n, hn⟩ : ∃ n, n = vs.length := ⟨_, rfl⟩
  have HC := Lib.hid (show 0 < n → ∃ b o, A = some ⟨b, o, none⟩ ∧ b < w.heap.size ∧ ∀ i (h : i < vs.length), w.cell? ⟨b, o + i, none⟩ = some vs[i] from fun h => by
    obtain ⟨b, o, h1, h2, h3, h4⟩ := hcl (by rw [← hn]; exact h)
    exact ⟨b, o, h1, h2, h4⟩)
  have HN := Lib.hid (And.intro hn (hn.trans hvl))
  have HRW := Lib.hid hrows
  have HBT := Lib.hid hB
  have hln : n ≤ 30 := by rw [hn, hvl]; exact hB.few
  rw [← hn] at hcap ⊢
  clear hn hcl hvl hrows hB
  go_enter Tryz.func13, Tryz.ntmps13
  go_wp2_with fail
  go_loopw [3, 4] (fun tv iv wr => ∃ (i k : Nat) (At : Option Addr) (ct : Nat), tv = .slice At k ct ∧ iv = .int .i64 (i : Int) ∧ k = (l.take i).flatten.length ∧ i ≤ n ∧ Hid (wr.ownsRow w.heap.size 9 1 tv k ((l.take i).flatten.map Value.string)) ∧ Hid (Below w.heap.size w wr)) (fun _ iv _ => n + 1 - (intOf iv).toNat)
  case atStart => exact ⟨0, 0, none, 0, rfl, rfl, by simp, by omega, Lib.hid (by simpa using World.ownsRow_nil _ _ _ _), Lib.hid (Below.refl _ _)⟩
  case round =>
    obtain ⟨i, k, At, ct, rfl, rfl, hk, hin, HR, HB⟩ := hrel
    have hkb : k ≤ 1800 := by rw [hk]; exact (HBT.out.take i).2
    have HK := Lib.hid hk
    clear hk
    by_cases h1 : i < n
    · obtain ⟨b, o, rfl, hb, hcells⟩ := HC.out (by omega)
      have hiv : i < vs.length := by rw [← HN.out.1]; exact h1
      have hig : i < l.length := by rw [← HN.out.2]; exact h1
      have hsl := ((HRW.out i hiv hig).keep HB.out.size fun b hlt _ => HB.out.block b hlt)
      have hro := HBT.out.rows _ (List.getElem_mem hig)
      have hck : wr.cell? ⟨b, o + i, none⟩ = some vs[i] := (HB.out.cell (p := ⟨b, o + i, none⟩) hb).trans (hcells i hiv)
      have hft := flat_take l i hig
      obtain ⟨r, hr⟩ : ∃ r, r = l[i] := ⟨_, rfl⟩
      rw [← hr] at hsl hro hft
      obtain ⟨Ar, cr, hsv, hcr, hcc⟩ := hsl
      rw [hsv] at hck
      rw [List.length_map] at hck hcr
      obtain ⟨br, or_, hAr, hbr, _, hrc⟩ := hcc (by rw [List.length_map]; omega)
      subst hAr
      obtain ⟨m, hm⟩ : ∃ m, m = r.length := ⟨_, rfl⟩
      have HM := Lib.hid hm
      rw [← hm] at hck hcr hro
      have hm1 : 1 ≤ m := hro.1
      have hm2 : m ≤ 60 := hro.2.1
      have HCW := Lib.hid (show ∀ (j : Nat) u, (r.map Value.string)[j]? = some u → wr.cell? ((⟨br, or_, none⟩ : Addr).add j) = some u from fun j u hu => by
        obtain ⟨hj, rfl⟩ := List.getElem?_eq_some_iff.1 hu
        rw [Addr.add_lit]
        exact hrc j hj)
      have HFT := Lib.hid (And.intro hft hro)
      obtain ⟨us, hus⟩ : ∃ us, us = (l.take i).flatten.map Value.string := ⟨_, rfl⟩
      have HUS := Lib.hid hus
      rw [← hus] at HR
      clear hsv hcells hb hiv hig hro hft hr hcc hbr hrc hm hus
      go_wp2_with (at_builtin; go_must (refine wpList_append_lies _ rfl (.tmp 11) (.tmp 15) 32 rfl w.heap.size 9 i0 (.string ⟨#[]⟩) 1 16 Tryz.underlying32 hi hz0 hz1 hz2 rfl (by decide) _ _ _ rfl HR.out ⟨br, or_, none⟩ m cr (r.map Value.string) rfl (by rw [List.length_map, ← HM.out]; simp) HCW.out (by intro u hu; obtain ⟨x, _, rfl⟩ := List.mem_map.1 hu; rfl) (by omega) (by unfold maxLen; omega) (by omega) HB.out.size _ rfl ?_))
      intro g capT w2 hown2 hgrow hat hltg
      have HB2 := Lib.hid (HB.out.grown hgrow HB.out.size (fun k hk => own_ge HR.out hk))
      have HR2 := Lib.hid (show w2.ownsRow w.heap.size 9 1 (.slice (some ⟨g, 0, none⟩) (k + m) capT) (k + m) ((l.take (i + 1)).flatten.map Value.string) by
        rw [HFT.out.1, List.map_append, ← HUS.out]; exact hown2)
      have HK2 := Lib.hid (show k + m = (l.take (i + 1)).flatten.length by rw [HFT.out.1, List.length_append, ← HK.out, ← HM.out])
      clear hown2 hgrow hat hltg
      go_wp2
      exact ⟨⟨i + 1, k + m, _, _, rfl, by congr 1, HK2.out, by omega, HR2, HB2⟩, by simp [intOf]; omega⟩
    · have HE := Lib.hid (show l.take i = l from List.take_of_length_le (by rw [← HN.out.2]; omega))
      go_wp2
      go_ret
      exact ⟨_, rfl, by have h2 := HR.out; rw [HK.out, HE.out] at h2; rw [HK.out, HE.out]; exact h2, HB.out⟩
end
end Go.Proofs.YtblkehdpenfhjaaGreatDoor
/-
  The laws' own functions: grown.
-/
set_option linter.unusedVariables false
set_option linter.unusedSimpArgs false
namespace Go.Proofs.YtblkehdpenfhjaaGreatDoor
open Go.RowKit Go.Maps Go.ChangeMaps Go.MapKept

section
variable {w w' : World} {X Y : Nat → Prop}
theorem StoreAt.made {room sb mb kb : Nat} (hr : room ≤ 1073741824) (h : StoreIs w sb mb kb room (fun _ => none) (fun _ => none) 0 0 (.slice none 0 0) 0 [] 0 false 0 0) (hk : kb ≠ mb) : StoreAt w sb room [] [] [] 0 (fun b => b = sb ∨ b = mb ∨ b = kb) :=
  { ex := ⟨mb, kb, .slice none 0 0, h, hk, .inl rfl, .inr (.inl rfl), .inr (.inr rfl), fun b hb => by cases hb⟩
    small := fun k u hh => by simp [getR] at hh
    used := Nat.zero_le _
    room := hr
    three := rfl
    logs := Nat.zero_le _
    many := Nat.zero_le _ }
/-- an engine that Appends alone have been asked of -/
structure Fresh (D : ED) (W B : Nat) (L : List ByteArray) : Prop where
  W : D.W = W
  B : D.B = B
  L : D.L = L
  age : D.age = 0
  space : D.space = 3
  nodes : D.nodes = 0
  spine : ∀ l i, D.spine l i = none
  dirty : ∀ j, j * D.size < D.L.length → D.dirty j = true
  unwr : ∀ j, D.unwr j = true → j * D.size < D.L.length
theorem Fresh.made (W B : Nat) : Fresh (D0 W B 3 0) W B [] := ⟨rfl, rfl, rfl, rfl, rfl, rfl, fun _ _ => rfl, fun j hj => by simp [D0] at hj, fun j hj => by simp [D0] at hj⟩
theorem Fresh.append {D : ED} {W B : Nat} {L xs : List ByteArray} (h : Fresh D W B L) {m : Nat} (hm : D.L.length + xs.length ≤ (D.L.length / D.size + m) * D.size) (hm2 : ∀ j ∈ touchedL D m, j * D.size < D.L.length + xs.length) : Fresh ((D.grown xs).marks (touchedL D m)) W B (L ++ xs) := by
  rw [marks_eq]
  refine ⟨h.W, h.B, by show D.L ++ xs = L ++ xs; rw [h.L], h.age, h.space, h.nodes, h.spine, fun j hj => ?_, fun j hj => ?_⟩
  rotate_left
  · have hj' : (decide (j ∈ touchedL D m) || D.unwr j) = true := hj
    show j * D.size < (D.L ++ xs).length
    rw [List.length_append]
    rw [Bool.or_eq_true, decide_eq_true_eq] at hj'
    rcases hj' with h1 | h1
    · exact hm2 j h1
    · have := h.unwr j h1; omega
  have hj' : j * D.size < (D.L ++ xs).length := hj
  rw [List.length_append] at hj'
  show (decide (j ∈ touchedL D m) || D.dirty j) = true
  rw [Bool.or_eq_true]
  have h1 : j < D.L.length / D.size + m := Nat.lt_of_mul_lt_mul_right (Nat.lt_of_lt_of_le hj' hm)
  by_cases hh : j < D.L.length / D.size
  · refine .inr (h.dirty j ?_)
    have h3 : (j + 1) * D.size ≤ D.L.length := Nat.le_trans (Nat.mul_le_mul_right _ hh) (Nat.div_mul_le_self _ _)
    have := D.size_pos
    rw [Nat.add_mul, Nat.one_mul] at h3
    omega
  · exact .inl (decide_eq_true (List.mem_map.2 ⟨j - D.L.length / D.size, List.mem_range.2 (by omega), by omega⟩))
/-- the log of these writes, none of them a Cut -/
def wlog : Recs → List Value
  | [] => []
  | (k, v) :: r => .string k :: .string v :: .bool false :: wlog r
theorem wlog_append (a b : Recs) : wlog (a ++ b) = wlog a ++ wlog b := by
  induction a with
  | nil => rfl
  | cons p a ih => obtain ⟨k, v⟩ := p; simp [wlog, ih]
theorem wlog_len (a : Recs) : (wlog a).length = 3 * a.length := by
  induction a with
  | nil => rfl
  | cons p a ih => obtain ⟨k, v⟩ := p; simp [wlog, ih]; omega
/-- these writes are within the store's own bounds -/
def PutsOk (ps : Recs) : Prop := ∀ p ∈ ps, 1 ≤ p.1.size ∧ p.1.size ≤ 64 ∧ p.2.size ≤ 1048576
theorem logA_puts (D : ED) (T : List ByteArray) (hT : ∀ x ∈ T, x.size ≤ 4096) (first : Nat) {ps : Recs} (hp : PutsOk ps) : ∀ i, ∃ qs : Recs, PutsOk qs ∧ logA D T first (wlog ps) i = wlog qs ∧ qs.length = ps.length + i
  | 0 => ⟨ps, hp, rfl, rfl⟩
  | i + 1 => by
    obtain ⟨qs, h1, h2, h3⟩ := logA_puts D T hT first hp i
    refine ⟨qs ++ [(keyP D (first + i * D.part), frmP D T (first + i * D.part))], fun p hpm => ?_, ?_, by simp [h3]; omega⟩
    · rcases List.mem_append.1 hpm with hpm | hpm
      · exact h1 p hpm
      · rw [List.mem_singleton] at hpm
        subst hpm
        have h4 := partB_size D T hT (first + i * D.part)
        have h5 := D.part_le
        have h6 : (keyP D (first + i * D.part)).size + (frmP D T (first + i * D.part)).size = (partB D T (first + i * D.part)).size + 36 := by
          unfold keyP frmP
          rw [keyB_size, frameV_size]
          omega
        have h7 : (keyP D (first + i * D.part)).size = 18 := by unfold keyP; rw [keyB_size]
        refine ⟨by show 1 ≤ (keyP D (first + i * D.part)).size; omega, by show (keyP D (first + i * D.part)).size ≤ 64; omega, ?_⟩
        show (frmP D T (first + i * D.part)).size ≤ 1048576
        omega
    · rw [wlog_append, ← h2]
      rfl
/-- an engine over its store, grown by i batches -/
structure Grew (w0 w : World) (a : EA) (W B : Nat) (L : List ByteArray) (i : Nat) (D : ED) (now : Recs) (log : List Value) (F : Nat → Prop) : Prop where
  sys : Sys w a D 536870912 now [] log F
  fresh : Fresh D W B L
  used : usedR now ≤ 508881 * i
  logs : log.length ≤ 183 * i
  many : now.length ≤ 61 * i
  puts : ∃ ps : Recs, PutsOk ps ∧ log = wlog ps ∧ i ≤ ps.length
  far : ∀ b, a.own b ∨ F b → w0.heap.size ≤ b
  below : Below w0.heap.size w0 w
theorem Grew.append {w0 : World} {a : EA} {W B i k m : Nat} {L xs : List ByteArray} {D : ED} {now : Recs} {log : List Value} {F F' : Nat → Prop} (h : Grew w0 w a W B L i D now log F) (hx : ∀ x ∈ xs, x.size ≤ 4096) (hn : xs.length ≤ 60) (hk : k ≤ xs.length + 1) (hk1 : 1 ≤ k)
    (hS : Sys w' a ((D.grown xs).marks (touchedL D m)) 536870912 (recsA D (D.L ++ xs) D.first now k) [] (logA D (D.L ++ xs) D.first log k) F') (hT : Turn (fun b => a.own b ∨ F b) w w') (hF : ∀ b, F' b → F b ∨ w.heap.size ≤ b)
    (hm : D.L.length + xs.length ≤ (D.L.length / D.size + m) * D.size) (hm2 : ∀ j ∈ touchedL D m, j * D.size < D.L.length + xs.length) : Grew w0 w' a W B (L ++ xs) (i + 1) ((D.grown xs).marks (touchedL D m)) (recsA D (D.L ++ xs) D.first now k) (logA D (D.L ++ xs) D.first log k) F' := by
  have hsz := h.below.size
  refine ⟨hS, h.fresh.append hm hm2, ?_, ?_, ?_, ?_, fun b hb => ?_, ?_⟩
  · have h1 := usedA D (D.L ++ xs) (fun x hx' => (List.mem_append.1 hx').elim (h.sys.eng.ok.small x) (hx x)) D.first now k
    have h2 := D.first_le
    have h3 := D.part_le
    have h4 := h.used
    rw [List.length_append] at h1
    have h5 : min (k * D.part) (D.L.length + xs.length - D.first) ≤ 123 := by omega
    omega
  · rw [logA_len]; have := h.logs; omega
  · have := recsA_len D (D.L ++ xs) D.first now k; have := h.many; omega
  · obtain ⟨ps, h1, h2, h3⟩ := h.puts
    obtain ⟨qs, h4, h5, h6⟩ := logA_puts D (D.L ++ xs) (fun x hx' => (List.mem_append.1 hx').elim (h.sys.eng.ok.small x) (hx x)) D.first h1 k
    exact ⟨qs, h4, by rw [h2]; exact h5, by omega⟩
  · rcases hb with hb | hb
    · exact h.far b (.inl hb)
    · rcases hF b hb with hb | hb
      · exact h.far b (.inr hb)
      · omega
  · exact (Turn.trans' (Turn.of_below h.below) hT fun b hb => .inr (h.far b hb)).below (fun k hk => hk) (Nat.le_refl _) |> fun h => h
end
end Go.Proofs.YtblkehdpenfhjaaGreatDoor
