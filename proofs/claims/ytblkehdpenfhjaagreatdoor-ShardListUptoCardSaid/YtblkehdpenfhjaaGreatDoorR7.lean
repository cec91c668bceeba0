import Derived.Test.YtblkehdpenfhjaaGreatDoorR6
import Derived.Laws.IdiomRangeMap
set_option linter.unnecessarySimpa false
set_option linter.unusedVariables false
set_option linter.unusedSimpArgs false
/-
  Package shard: Append, plain and walked.
-/
set_option linter.unusedVariables false
set_option linter.unusedSimpArgs false
namespace Go.Proofs.YtblkehdpenfhjaaGreatDoor
open Go.RowKit Go.Maps Go.ChangeMaps Go.MapKept

section
variable {w w' : World} {a : EA} {D : ED} {X Y : Nat → Prop} {room : Nat} {now disk : Recs} {log : List Value} {F : Nat → Prop}
def partB (D : ED) (T : List ByteArray) (at_ : Nat) : ByteArray := mk (leavesL (seg T at_ D.part))
def keyP (D : ED) (at_ : Nat) : ByteArray := keyB D.space 4 at_
def frmP (D : ED) (T : List ByteArray) (at_ : Nat) : ByteArray := frameV 4 at_ (partB D T at_)
/-- the records, the log behind i parts from 'first' on -/
def recsA (D : ED) (T : List ByteArray) (first : Nat) (now : Recs) : Nat → Recs
  | 0 => now
  | i + 1 => putR (recsA D T first now i) (keyP D (first + i * D.part)) (frmP D T (first + i * D.part))
def logA (D : ED) (T : List ByteArray) (first : Nat) (log : List Value) : Nat → List Value
  | 0 => log
  | i + 1 => logA D T first log i ++ [.string (keyP D (first + i * D.part)), .string (frmP D T (first + i * D.part)), .bool false]
theorem logA_len (D : ED) (T : List ByteArray) (first : Nat) (log : List Value) : ∀ i, (logA D T first log i).length = log.length + 3 * i
  | 0 => rfl
  | i + 1 => by simp [logA, logA_len D T first log i]; omega
theorem putR_len_le (r : Recs) (k v : ByteArray) : (putR r k v).length ≤ r.length + 1 := by rw [putR_length]; unfold grow; split <;> omega
theorem recsA_len (D : ED) (T : List ByteArray) (first : Nat) (now : Recs) : ∀ i, (recsA D T first now i).length ≤ now.length + i
  | 0 => Nat.le_refl _
  | i + 1 => by have := recsA_len D T first now i; have := putR_len_le (recsA D T first now i) (keyP D (first + i * D.part)) (frmP D T (first + i * D.part)); simp only [recsA]; omega
theorem ED.part_le (D : ED) : D.part ≤ 64 := Nat.min_le_right _ _
theorem partB_size (D : ED) (T : List ByteArray) (hT : ∀ x ∈ T, x.size ≤ 4096) (at_ : Nat) : (partB D T at_).size ≤ 11 + 4106 * min D.part (T.length - at_) := by
  unfold partB
  rw [mk_size]
  have h1 : (seg T at_ D.part).length ≤ 1024 := by rw [seg_len]; have := D.part_le; omega
  have := leavesL_len (seg T at_ D.part) h1 (fun x hx => hT x (List.mem_of_mem_drop (List.mem_of_mem_take hx)))
  rw [seg_len] at this
  omega
theorem countF_le (D : ED) (T : List ByteArray) (hT : ∀ x ∈ T, x.size ≤ 4096) (at_ : Nat) : countF (seg T at_ D.part) ≤ 63 + 4106 * min D.part (T.length - at_) := by
  unfold countF
  split
  · omega
  · have := partB_size D T hT at_
    unfold partB at this
    rw [mk_size] at this
    omega
theorem usedA (D : ED) (T : List ByteArray) (hT : ∀ x ∈ T, x.size ≤ 4096) (first : Nat) (now : Recs) : ∀ i, usedR (recsA D T first now i) ≤ usedR now + 63 * i + 4106 * min (i * D.part) (T.length - first)
  | 0 => by simp [recsA]
  | i + 1 => by
    have h1 := usedA D T hT first now i
    have h2 := usedR_put (recsA D T first now i) (keyP D (first + i * D.part)) (frmP D T (first + i * D.part))
    have h3 := partB_size D T hT (first + i * D.part)
    have h4 : costK (keyP D (first + i * D.part)) (frmP D T (first + i * D.part)) = (partB D T (first + i * D.part)).size + 52 := by
      unfold costK keyP frmP
      rw [keyB_size, frameV_size]
      omega
    simp only [recsA]
    rw [h4] at h2
    rw [Nat.add_mul]
    omega
/-- an Append's own numbers -/
def ED.first (D : ED) : Nat := D.L.length / D.part * D.part
def ED.grown (D : ED) (xs : List ByteArray) : ED := { D with L := D.L ++ xs }
def touchedL (D : ED) (m : Nat) : List Nat := (List.range m).map (· + D.L.length / D.size)
theorem ED.first_le (D : ED) : D.first ≤ D.L.length ∧ D.L.length < D.first + D.part := by
  unfold ED.first
  have hp := D.part_pos
  have h1 := Nat.div_mul_le_self D.L.length D.part
  have h2 := Nat.lt_mul_div_succ D.L.length hp
  rw [Nat.mul_add, Nat.mul_one, Nat.mul_comm] at h2
  exact ⟨h1, h2⟩
theorem steps_le {p n i : Nat} (hp : 1 ≤ p) (h : i = 0 ∨ (i - 1) * p < n + p) : i ≤ n + 1 := by
  rcases h with h | h
  · omega
  · by_cases hi : i ≤ n + 1
    · exact hi
    · have h1 : (n + 1) * p ≤ (i - 1) * p := Nat.mul_le_mul_right _ (by omega)
      have h2 : n * 1 ≤ n * p := Nat.mul_le_mul_left _ hp
      rw [Nat.add_mul] at h1
      omega
theorem infoI : (Tryz.prog.info? 3).map (fun i => (i.zero, i.size, i.bytes)) = some (some (.int .i64 0), 1, 8) := by kernel_rfl
theorem wv_of {xs : List ByteArray} {A : Option Addr} {cap : Nat} {Z : Nat → Prop} (hv : SlIn w (.slice A xs.length cap) (xs.map Value.string) Z) (h0 : 0 < xs.length) :
    ∃ b o, A = some ⟨b, o, none⟩ ∧ b < w.heap.size ∧ Z b ∧ ∀ i (h : i < xs.length), w.cell? ⟨b, o + i, none⟩ = some (.string xs[i]) := by
  obtain ⟨A', cap', e, hcap, hcl⟩ := hv
  injection e with e1 e2 e3
  subst e1
  obtain ⟨b, o, h1, h2, h3, h4⟩ := hcl (by rw [List.length_map]; exact h0)
  exact ⟨b, o, h1, h2, h3, fun i hi => by rw [h4 i (by rw [List.length_map]; exact hi), List.getElem_map]⟩
theorem EngIn.relist {lv v : Value} {rv : Nat → Option Value} {sf : Lit → Option Value} {ns : Nat} {xs : List ByteArray} (h : EngIn w a D X lv rv sf ns) (hv : SlIn w v ((D.L ++ xs).map Value.string) X) (hx : ∀ x ∈ xs, x.size ≤ 4096) (hl : D.L.length + xs.length ≤ 68719476736) (h0 : 0 < xs.length) :
    EngIn (w.setCell ⟨a.eb, 10, none⟩ v) a (D.grown xs) X v rv sf ns := by
  have hT : Turn (fun b => b = a.eb) w (w.setCell ⟨a.eb, 10, none⟩ v) := (Turn.refl (fun b => b = a.eb) _).setCell (p := ⟨a.eb, 10, none⟩) (.inl rfl) _
  have hX : ∀ b, X b → b ≠ a.eb := fun b hb e => h.apX b hb (.inl e)
  exact ⟨by rw [block_setCell (off := 10) h.blk v]; rfl, h.rowsM.keep (hT.block _ h.rowsM.lt h.ne1.symm), h.dirtyM.keep (hT.block _ h.dirtyM.lt h.ne2.symm), h.unwrM.keep (hT.block _ h.unwrM.lt h.ne3.symm), h.spineM.keep (hT.block _ h.spineM.lt h.ne4.symm),
    hv.keep hT.size fun b hb hx => hT.block b hb (hX b hx), fun j => (h.grid j).keep hT.size fun b hb hx => hT.block b hb (hX b hx), h.spv, h.nsle, h.ap1, h.ap2, h.ap3, h.ap4, h.ap5, h.ap6, h.apX,
    ⟨h.ok.W1, h.ok.W2, h.ok.B, h.ok.space, h.ok.age, fun x hx' => (List.mem_append.1 hx').elim (h.ok.small x) (hx x), by show (D.L ++ xs).length ≤ _; rw [List.length_append]; exact hl, h.ok.nodes⟩, h.glb, fun e => by
      have : (D.L ++ xs).length = 0 := by rw [show D.L ++ xs = [] from e]; rfl
      rw [List.length_append] at this
      omega⟩
theorem marks_eq (D : ED) (js : List Nat) : D.marks js = { D with dirty := fun q => decide (q ∈ js) || D.dirty q, unwr := fun q => decide (q ∈ js) || D.unwr q } := by
  induction js generalizing D with
  | nil => simp [ED.marks]
  | cons j r ih =>
    rw [ED.marks, ih]
    have : ∀ f : Nat → Bool, (fun q => decide (q ∈ r) || (if q = j then true else f q)) = fun q => decide (q ∈ j :: r) || f q := fun f => by
      funext q
      by_cases e : q = j
      · simp [e]
      · simp [e]
    unfold ED.marked
    simp only [this]
theorem seg_app (L M : List ByteArray) (o n : Nat) (h : o + n ≤ L.length) : seg (L ++ M) o n = seg L o n := by
  unfold seg
  rw [List.drop_append_of_le_length (by omega), List.take_append_of_le_length (by rw [List.length_drop]; omega)]
theorem grown_good {xs : List ByteArray} (h : Good D) {m : Nat} (hm : D.L.length + xs.length ≤ (D.L.length / D.size + m) * D.size) : Good ((D.grown xs).marks (touchedL D m)) := by
  rw [marks_eq]
  have hsp := D.size_pos
  constructor
  · intro j hj hd
    have hj' : j * D.size < (D.L ++ xs).length := hj
    have hd' : (decide (j ∈ touchedL D m) || D.dirty j) = false := hd
    rw [Bool.or_eq_false_iff] at hd'
    have hn : ¬ j ∈ touchedL D m := by simpa using hd'.1
    rw [List.length_append] at hj'
    have h1 : j < D.L.length / D.size + m := Nat.lt_of_mul_lt_mul_right (Nat.lt_of_lt_of_le hj' hm)
    have h2 : j < D.L.length / D.size := by
      by_cases hh : j < D.L.length / D.size
      · exact hh
      · exfalso
        exact hn (List.mem_map.2 ⟨j - D.L.length / D.size, List.mem_range.2 (by omega), by omega⟩)
    have h3 : (j + 1) * D.size ≤ D.L.length := Nat.le_trans (Nat.mul_le_mul_right _ h2) (Nat.div_mul_le_self _ _)
    rw [Nat.add_mul, Nat.one_mul] at h3
    obtain ⟨g, hg, hr⟩ := h.rows j (by omega) hd'.2
    refine ⟨g, hg, ?_⟩
    show RowsOk D.W (seg (D.L ++ xs) (j * D.size) D.size) g
    rw [seg_app _ _ _ _ h3]
    exact hr
  · intro l i x hs
    obtain ⟨h1, h2, h3, h4⟩ := h.spine l i x hs
    refine ⟨h1, h2, ?_, ?_⟩
    · show _ ≤ (D.L ++ xs).length
      rw [List.length_append]
      omega
    · show x = nodeF D.W (D.L ++ xs) l i
      rw [nodeF_app _ _ _ _ _ h3]
      exact h4
set_option maxHeartbeats 16000000 in
set_option maxRecDepth 100000 in
theorem append_callsG {FS : Nat → Prop} (h : Sys w a D room now disk log F) (hSt : StoreAt w a.sb room now disk log D.age FS) (hSub : ∀ b, FS b → F b) (xs : List ByteArray) (hx : ∀ x ∈ xs, x.size ≤ 4096) (h0 : 0 < xs.length) (hl : xs.length ≤ 1024) (hlen : D.L.length + xs.length ≤ 68719476736) {A : Option Addr} {cap : Nat} {Z : Nat → Prop} (hv : SlIn w (.slice A xs.length cap) (xs.map Value.string) Z) (hZ : ∀ b, Z b → ¬ a.own b ∧ ¬ F b)
    (hu : usedR now + (4200 * xs.length + 600000) ≤ room) (hlg : log.length ≤ 2000000000) (hnl : now.length ≤ 900000000) :
    Calls Tryz.prog 19 #[.pointer (some ⟨a.eb, 0, none⟩), .slice A xs.length cap] w fun r w' => r = .returned (.int .i64 0) ∧ ∃ (F' : Nat → Prop) (k m : Nat), 1 ≤ k ∧ k ≤ xs.length + 1 ∧
      Sys w' a ((D.grown xs).marks (touchedL D m)) room (recsA D (D.L ++ xs) D.first now k) disk (logA D (D.L ++ xs) D.first log k) (fun b => F b ∨ F' b) ∧ StoreAt w' a.sb room (recsA D (D.L ++ xs) D.first now k) disk (logA D (D.L ++ xs) D.first log k) D.age F' ∧ Turn (fun b => a.own b ∨ FS b) w w' ∧ (∀ b, F' b → FS b ∨ w.heap.size ≤ b) ∧ D.L.length + xs.length ≤ (D.L.length / D.size + m) * D.size ∧ (∀ j ∈ touchedL D m, j * D.size < D.L.length + xs.length) := by
  have HST0 := Lib.hid (And.intro hSt hSub)
  clear hSt hSub
  have hE := h.eng
  obtain ⟨lv, rv, sf, ns, hEI⟩ := _root_.id hE
  have HO := Lib.hid (over_calls hEI h.sto)
  have hlow := hE.low (b := a.eb) (.inl rfl)
  have hlist := hEI.list
  have hnil := hEI.nl
  have hsm := h.eng.ok.small
  have hTs : ∀ x ∈ D.L ++ xs, x.size ≤ 4096 := fun x hx' => (List.mem_append.1 hx').elim (hsm x) (hx x)
  obtain ⟨n, hn⟩ : ∃ n, n = xs.length := ⟨_, rfl⟩
  obtain ⟨len, hle⟩ : ∃ n, n = D.L.length := ⟨_, rfl⟩
  obtain ⟨T, hTT⟩ : ∃ T, T = D.L ++ xs := ⟨_, rfl⟩
  have hTl : T.length = len + n := by rw [hTT, List.length_append, hle, hn]
  obtain ⟨p, hp⟩ : ∃ p, p = D.part := ⟨_, rfl⟩
  obtain ⟨fi, hfi⟩ : ∃ f, f = D.first := ⟨_, rfl⟩
  have hfl := D.first_le
  have hpp := D.part_pos
  have hpl := D.part_le
  rw [← hp, ← hfi, ← hle] at hfl
  rw [← hp] at hpp hpl
  have hfq : fi = len / p * p := by rw [hfi, hle, hp]; rfl
  have hpu := wv_of hv h0
  obtain ⟨b0, o0, hA, hb0, hbZ, hc0⟩ := hpu
  subst hA
  rw [← hn] at h0 hl hlen hu hv ⊢
  rw [← hle] at hlen
  have HH := Lib.hid h
  have HX := Lib.hid (And.intro hx hTs)
  have HV := Lib.hid hv
  have HZ := Lib.hid hZ
  have HU := Lib.hid hu
  have HLG := Lib.hid (And.intro hlg hnl)
  have HD := Lib.hid (And.intro hn (And.intro hle (And.intro hp hfi)))
  have HT := Lib.hid (And.intro hTT hTl)
  have HC0 := Lib.hid hc0
  have HHX := Lib.hid h0
  have HTK := Lib.hid fun k => taken_calls (w := w.drewN k) (a := a) (D := D) (hE.drewN k) xs hx (by rw [← hn]; exact h0) (by rw [← hn]; exact hl) hv
  have HCL := Lib.hid fun k => clone_calls (w := w.drewN k) (us := D.L.map Value.string) (fun u hu => by obtain ⟨x, _, rfl⟩ := List.mem_map.1 hu; rfl) (by rw [List.length_map, ← hle]; omega) hlist (fun e => hnil (by simpa using e))
  have HLS0 := Lib.hid hlist
  have hcapn : n ≤ cap := by obtain ⟨A', c', e, hc', _⟩ := hv; injection e with e1 e2 e3; rw [List.length_map] at e2 hc'; omega
  obtain ⟨i0, hi, hz0, hz1, hz2⟩ := info_parts infoS
  obtain ⟨k0, hk0, hkz0, hkz1, hkz2⟩ := info_parts infoI
  obtain ⟨eb, heb⟩ : ∃ x, x = a.eb := ⟨_, rfl⟩
  have HEB := Lib.hid heb
  have c10 := hEI.c10
  rw [← heb] at HO HTK c10 ⊢
  have HLW := Lib.hid hlow
  rw [show (D.L.map Value.string).length = len by rw [List.length_map, hle]] at HCL
  rw [← hfi, ← hTT]
  obtain ⟨AL, cL, hlv⟩ : ∃ A c, lv = .slice A len c := by
    obtain ⟨A', c', e, _⟩ := hlist
    rw [List.length_map, ← hle] at e
    exact ⟨_, _, e⟩
  subst hlv
  have HCL2 := Lib.hid (show len ≤ cL by obtain ⟨A', c', e, hc', _⟩ := HLS0.out; injection e with e1 e2 e3; rw [List.length_map] at e2 hc'; omega)
  clear h hE hEI hlist hnil hx hTs hv hZ hu hlg hnl hn hle hTT hTl hp hfi hc0 heb hlow hsm
  go_enter Tryz.func19, Tryz.ntmps19
  go_wp2_with fail
  refine (HO.out).mono ?_
  rintro r w1 ⟨rfl, m1, rfl⟩
  go_wp2_with fail
  refine (HTK.out m1).mono ?_
  rintro r w1 ⟨rfl, rfl⟩
  go_wp2_with fail
  refine (HCL.out m1).mono ?_
  rintro r w1 ⟨u, rfl, hru, hbu⟩
  obtain ⟨Au, cu, rfl, hcu⟩ := own_form hru
  have HRU := Lib.hid hru
  have c10w := c10
  have HB1 := Lib.hid (show Below w.heap.size w w1 from (below_drewN (Below.refl _ w) m1).trans hbu)
  have HCW := Lib.hid (show ∀ (j : Nat) u, (xs.map Value.string)[j]? = some u → w1.cell? ((⟨b0, o0, none⟩ : Addr).add j) = some u from fun j u hu => by
    obtain ⟨hj, rfl⟩ := List.getElem?_eq_some_iff.1 hu
    rw [Addr.add_lit, HB1.out.cell (p := ⟨b0, o0 + j, none⟩) hb0, List.getElem_map]
    exact HC0.out j (by simpa using hj))
  have HC10 := Lib.hid c10w
  clear hru hbu c10 c10w
  go_wp2_with (at_builtin; go_must (refine wpList_append_lies _ rfl (.tmp 28) (.tmp 29) 32 rfl w.heap.size 9 i0 (.string ⟨#[]⟩) 1 16 Tryz.underlying32 hi hz0 hz1 hz2 rfl (by decide) _ _ _ rfl HRU.out ⟨b0, o0, none⟩ n cap (xs.map Value.string) rfl (by rw [List.length_map, ← HD.out.1]; simp) HCW.out (by intro u hu; obtain ⟨x, _, rfl⟩ := List.mem_map.1 hu; rfl) HHX.out (by unfold maxLen; omega) (by omega) HB1.out.size _ rfl ?_))
  intro g capT w2 hown2 hgrow hat hltg
  have HB2 := Lib.hid (show Below w.heap.size w w2 from HB1.out.grown hgrow HB1.out.size (fun k hk => own_ge HRU.out hk))
  have HTV := Lib.hid (show SlIn w2 (.slice (some ⟨g, 0, none⟩) (len + n) capT) (T.map Value.string) (fun b => w.heap.size ≤ b) by
    rw [HT.out.1, List.map_append]; exact SlIn.of_own hown2)
  have HS2 := Lib.hid (HH.out.below HB2.out)
  clear hown2 hgrow hat hltg
  obtain ⟨Tl, hTle⟩ : ∃ x, x = len + n := ⟨_, rfl⟩
  have HTE := Lib.hid hTle
  have hTl2 : len ≤ Tl ∧ n ≤ Tl := by omega
  rw [← hTle] at HTV hlen
  have HLST := Lib.hid (show SlIn w2 (.slice AL len cL) (D.L.map Value.string) (fun b => ¬ a.own b ∧ ¬ F b) from HLS0.out.below HB2.out)
  have HP2 := Lib.hid (show ∀ w', Below w2.heap.size w2 w' → Calls Tryz.prog 66 #[.pointer (some ⟨eb, 0, none⟩)] w' fun r w'' => r = .returned (.int .i64 (p : Int)) ∧ w' = w'' from fun w' hb => by
    have := part_calls (HS2.out.eng.below hb)
    rw [← HEB.out, ← HD.out.2.2.1] at this
    exact this)
  have c10 : w2.cell? ⟨eb, 10, none⟩ = some (.slice AL len cL) := (HB2.out.cell (p := ⟨eb, 10, none⟩) (by rw [HEB.out]; exact HLW.out)).trans HC10.out
  obtain ⟨q, hq⟩ : ∃ x, x = len / p := ⟨_, rfl⟩
  have hqfi : fi = q * p := by rw [hq]; exact hfq
  have m1 : (len : Int).tdiv (p : Int) = (q : Int) := by rw [hq]; rfl
  have m2 : (q : Int) * (p : Int) = (fi : Int) := by rw [hqfi]; simp
  have m1b : (len : Int) / (p : Int) = (q : Int) := by rw [hq]; simp
  have hp0 : ¬ ((p : Int) = 0) := by omega
  have hp0b : p ≠ 0 := by omega
  have hql : q ≤ len := by rw [hq]; exact Nat.div_le_self _ _
  have w1q : IntKind.i64.wrap (q : Int) = (q : Int) := by simp [IntKind.wrap, IntKind.signed, IntKind.bits]; omega
  have w1f : IntKind.i64.wrap (fi : Int) = (fi : Int) := by simp [IntKind.wrap, IntKind.signed, IntKind.bits]; omega
  have HFQ := Lib.hid hfq
  clear hq hqfi hfq hTle
  go_wp2_with fail
  go_quiet (first | (go_at_call 66; exact (HP2.out _ (below_drewN (Below.refl _ _) _)).mono fun _ _ ⟨h1, h2⟩ => ⟨h1, _, h2.symm⟩))
  have hcut := fun w' => cutS_calls AL len cL fi p HCL2.out (by omega) (by omega) (by omega) w'
  have HSV := Lib.hid (slin_cutV D.L HLST.out fi p)
  obtain ⟨cv, hcv⟩ : ∃ x, x = cutV (.slice AL len cL) fi p := ⟨_, rfl⟩
  rw [← hcv] at hcut HSV
  have HCUT := Lib.hid hcut
  have HSG := Lib.hid (show ∀ y ∈ seg D.L fi p, y.size ≤ 4096 from fun y hy => HX.out.2 y (by rw [← HT.out.1]; rw [HT.out.1]; exact List.mem_append_left _ (List.mem_of_mem_drop (List.mem_of_mem_take hy))))
  have hc0 := countF_le D D.L (fun y hy => HX.out.2 y (List.mem_append_left _ hy)) fi
  rw [← HD.out.2.2.1, ← HD.out.2.1] at hc0
  have HCT := Lib.hid (show ∀ w', Below w2.heap.size w2 w' → Calls Tryz.prog 67 #[cv] w' fun r w'' => r = .returned (.int .i64 (countF (seg D.L fi p) : Int)) ∧ Hid (Below w2.heap.size w2 w'') from fun w' hb =>
    (counted_calls (seg D.L fi p) (by rw [seg_len]; omega) HSG.out cv (HSV.out.below hb)).mono fun r w'' ⟨h1, h2⟩ => ⟨h1, Lib.hid (hb.trans (h2.mono hb.size))⟩)
  obtain ⟨c0, hce⟩ : ∃ x, x = countF (seg D.L fi p) := ⟨_, rfl⟩
  rw [← hce] at HCT hc0
  have hc0b : c0 ≤ 300000 := by omega
  obtain ⟨mz, hmz⟩ : ∃ x, x = -(c0 : Int) := ⟨_, rfl⟩
  have wmz : IntKind.i64.wrap mz = mz := by simp [IntKind.wrap, IntKind.signed, IntKind.bits]; omega
  have hneg : -(c0 : Int) = mz := hmz.symm
  have HMZ := Lib.hid (show -300000 ≤ mz ∧ mz ≤ 0 by omega)
  have heb2 : eb < w2.heap.size := by rw [HEB.out]; exact Nat.lt_of_lt_of_le HLW.out HB2.out.size
  have HEB2 := Lib.hid heb2
  have HC102 := Lib.hid c10
  have HPQ := Lib.hid (show ∀ w', Hid (Below w2.heap.size w2 w') → Calls Tryz.prog 66 #[.pointer (some ⟨eb, 0, none⟩)] w' fun r w'' => r = .returned (.int .i64 (p : Int)) ∧ Hid (Below w2.heap.size w2 w'') from fun w' s1 => (HP2.out w' s1.out).mono fun _ _ ⟨h1, h2⟩ => ⟨h1, h2 ▸ s1⟩)
  have HCUQ := Lib.hid (show ∀ w', Hid (Below w2.heap.size w2 w') → Calls Tryz.prog 68 #[.slice AL len cL, .int .i64 fi, .int .i64 p] w' fun r w'' => r = .returned cv ∧ Hid (Below w2.heap.size w2 w'') from fun w' s1 => (HCUT.out w').mono fun _ _ ⟨h1, h2⟩ => ⟨h1, h2 ▸ s1⟩)
  clear hcut hcv hc0 hce hmz m1 m1b m2 hp0 hp0b w1q heb2 c10
  go_wp2_with fail
  refine wp_region_quietQ (fun w' => Hid (Below w2.heap.size w2 w')) (by kernel_rfl) (by kernel_rfl) (Lib.hid (below_drewN (Below.refl _ w2) (nq + 1))) ?_
  iterate 6
    refine valQ ?_ ?_ (by rfl) (fun w' s1 => ?_) ?_ ?_
    rotate_left 2
    focus (have c10 := (s1.out.cell (p := ⟨eb, 10, none⟩) HEB2.out).trans HC102.out; go_simp; exact rfl)
    focus (go_simp; exact rfl)
  refine callQ ?_ ?_ ?_ ?_ (by rfl) (fun w' s1 => ?_) (fun w' s1 => ?_) ?_ ?_
  rotate_left 4
  focus (skip; go_simp; first | exact rfl | (refine ⟨?_, ?_⟩ <;> exact rfl))
  focus (exact HPQ.out w' s1)
  focus (go_simp; exact rfl)
  refine callQ ?_ ?_ ?_ ?_ (by rfl) (fun w' s1 => ?_) (fun w' s1 => ?_) ?_ ?_
  rotate_left 4
  focus (skip; go_simp; first | exact rfl | (refine ⟨?_, ?_⟩ <;> exact rfl))
  focus (exact HCUQ.out w' s1)
  focus (go_simp; exact rfl)
  refine callQ ?_ ?_ ?_ ?_ (by rfl) (fun w' s1 => ?_) (fun w' s1 => ?_) ?_ ?_
  rotate_left 4
  focus (skip; go_simp; first | exact rfl | (refine ⟨?_, ?_⟩ <;> exact rfl))
  focus (exact HCT.out w' s1.out)
  focus (go_simp; exact rfl)
  iterate 2
    refine valQ ?_ ?_ (by rfl) (fun w' s1 => ?_) ?_ ?_
    rotate_left 2
    focus (skip; go_simp; exact rfl)
    focus (go_simp; exact rfl)
  refine nilQ ?_
  intro w3 HB3
  go_wp2_with fail
  rw [← HTE.out]
  have HTS := Lib.hid (fun at_ => countF_le D T (by rw [HT.out.1]; exact HX.out.2) at_)
  have HTLE := Lib.hid (show T.length = Tl by rw [HTE.out]; exact HT.out.2)
  obtain ⟨tA, htA⟩ : ∃ x : Option Addr, x = some ⟨g, 0, none⟩ := ⟨_, rfl⟩
  rw [← htA] at HTV ⊢
  have HCLT := Lib.hid (show Tl ≤ capT by obtain ⟨A', c', e, hc', _⟩ := HTV.out; injection e with e1 e2 e3; rw [List.length_map, HTLE.out] at hc'; omega)
  clear htA
  have HCUA := Lib.hid (show ∀ at_, at_ ≤ 70368744177664 → ∀ w', Below w2.heap.size w2 w' → Calls Tryz.prog 68 #[.slice tA Tl capT, .int .i64 (at_ : Nat), .int .i64 p] w' fun r w'' => r = .returned (cutV (.slice tA Tl capT) at_ p) ∧ w' = w'' from fun at_ hat w' hb =>
    cutS_calls tA Tl capT at_ p HCLT.out (by omega) (by omega) (by omega) w')
  have HCTA := Lib.hid (show ∀ at_ w', Below w2.heap.size w2 w' → Calls Tryz.prog 67 #[cutV (.slice tA Tl capT) at_ p] w' fun r w'' => r = .returned (.int .i64 (countF (seg T at_ p) : Int)) ∧ Below w2.heap.size w2 w'' from fun at_ w' hb =>
    (counted_calls (seg T at_ p) (by rw [seg_len]; omega) (fun y hy => by rw [HT.out.1] at hy; exact HX.out.2 y (List.mem_of_mem_drop (List.mem_of_mem_take hy))) _ ((slin_cutV T HTV.out at_ p).below hb)).mono fun r w'' ⟨h1, h2⟩ => ⟨h1, hb.trans (h2.mono hb.size)⟩)
  have HHL := Lib.hid hfl
  have hTf : Tl - fi ≤ n + 63 := by have := HTE.out; omega
  have hfT : fi ≤ Tl := by omega
  go_loopw [8, 9] (fun mv av wr => ∃ (i : Nat) (m : Int) (at_ : Nat), mv = .int .i64 m ∧ av = .int .i64 (at_ : Int) ∧ Hid (at_ = fi + i * p) ∧ -300000 ≤ m ∧ Hid (m ≤ ((63 * i + 4106 * min (i * p) (Tl - fi) : Nat) : Int)) ∧ Hid (i = 0 ∨ at_ < Tl + p) ∧ at_ ≤ Tl + 64 ∧ m ≤ 290000000000000 ∧ Hid (Below w2.heap.size w2 wr)) (fun _ av _ => Tl - (intOf av).toNat)
  case atStart => exact ⟨0, mz, fi, rfl, rfl, Lib.hid (by simp), HMZ.out.1, Lib.hid (by simp; exact HMZ.out.2), Lib.hid (.inl rfl), by omega, by have := HMZ.out; omega, HB3⟩
  case round =>
    clear HB3
    obtain ⟨i, m, at_, rfl, rfl, HAT, hm1, HM, HI, hatl, hm2, HB3⟩ := hrel
    by_cases hlt : at_ < Tl
    · have hip : i * p ≤ Tl - fi := by have := HAT.out; omega
      have hc0 := HTS.out at_
      rw [← HD.out.2.2.1, HTLE.out] at hc0
      have hmb : m ≤ 63 * i + 4106 * (Tl - fi) := by have := HM.out; omega
      have hii : i ≤ Tl := by
        have : i * 1 ≤ i * p := Nat.mul_le_mul_left _ hpp
        omega
      have HPA := Lib.hid (fun w' hb => HP2.out w' hb)
      obtain ⟨ci, hci⟩ : ∃ x, x = countF (seg T at_ p) := ⟨_, rfl⟩
      have HCC := Lib.hid (HCTA.out at_)
      have HCU := Lib.hid (HCUA.out at_ (by omega))
      rw [← hci] at hc0 HCC
      have hcib : ci ≤ 300000 := by omega
      obtain ⟨m', hm'⟩ : ∃ x, x = m + (ci : Int) := ⟨_, rfl⟩
      have hms : m + (ci : Int) = m' := hm'.symm
      have HM2 := Lib.hid (show -300000 ≤ m' ∧ m' ≤ ((63 * (i + 1) + 4106 * min ((i + 1) * p) (Tl - fi) : Nat) : Int) ∧ m' ≤ 290000000000000 from by
        have h1 := HM.out
        have h2 := HAT.out
        rw [Nat.add_mul]
        omega)
      obtain ⟨cv2, hcv2⟩ : ∃ x, x = cutV (.slice tA Tl capT) at_ p := ⟨_, rfl⟩
      rw [← hcv2] at HCC HCU
      obtain ⟨at2, hat2⟩ : ∃ x, x = at_ + p := ⟨_, rfl⟩
      have has : (at_ : Int) + (p : Int) = (at2 : Int) := by omega
      have HA2 := Lib.hid (show at2 = fi + (i + 1) * p ∧ at2 < Tl + p ∧ at2 ≤ Tl + 64 ∧ at_ < at2 by have := HAT.out; rw [Nat.add_mul]; omega)
      clear hip hc0 hmb hii hci hm' hcv2 hat2
      go_wp2_with fail
      refine (HPA.out wr HB3.out).mono ?_
      rintro r w4 ⟨rfl, rfl⟩
      go_wp2_with fail
      refine (HCU.out wr HB3.out).mono ?_
      rintro r w4 ⟨rfl, rfl⟩
      go_wp2_with fail
      refine (HCC.out wr HB3.out).mono ?_
      rintro r w4 ⟨rfl, hb4⟩
      have HB4 := Lib.hid hb4
      clear hb4
      go_wp2_with fail
      refine (HPA.out w4 HB4.out).mono ?_
      rintro r w5 ⟨rfl, rfl⟩
      go_wp2
      exact ⟨⟨i + 1, m', at2, rfl, rfl, Lib.hid HA2.out.1, HM2.out.1, Lib.hid HM2.out.2.1, Lib.hid (.inr HA2.out.2.1), HA2.out.2.2.1, HM2.out.2.2, HB4⟩, by have := HA2.out.2.2.2; simp [intOf]; omega⟩
    · have hkn : i ≤ n + 1 := steps_le hpp (by
        have h1 := HI.out
        have h2 := HAT.out
        rcases h1 with h1 | h1
        · exact .inl h1
        · by_cases hi0 : i = 0
          · exact .inl hi0
          · refine .inr ?_
            obtain ⟨i', rfl⟩ : ∃ i', i = i' + 1 := ⟨i - 1, by omega⟩
            rw [Nat.add_mul] at h2
            simp only [Nat.add_sub_cancel]
            have := HTE.out
            omega)
      have hmu : m ≤ 63 * (n + 1) + 4106 * (n + 63) := by have := HM.out; omega
      have hSy := HS2.out.below HB3.out
      have HSW := Lib.hid hSy
      obtain ⟨⟨mb, kb, lv2, hSI, _⟩, _, hur, hroom, _⟩ := hSy.sto
      have HUQ := Lib.hid fun k => used_calls (w := wr.drewN k) (h := ⟨hSI.blk, hSI.now.keep rfl, hSI.disk.keep rfl, own_keep hSI.own fun _ _ _ => rfl⟩)
      have HRQ := Lib.hid fun k => room_calls (w := wr.drewN k) (h := ⟨hSI.blk, hSI.now.keep rfl, hSI.disk.keep rfl, own_keep hSI.own fun _ _ _ => rfl⟩)
      obtain ⟨U, hU⟩ : ∃ x, x = usedR now := ⟨_, rfl⟩
      rw [← hU] at HUQ hur
      have hUr := HU.out
      rw [← hU] at hUr
      obtain ⟨um, hum⟩ : ∃ x, x = (U : Int) + m := ⟨_, rfl⟩
      have hums : (U : Int) + m = um := hum.symm
      have humr : ¬ ((room : Int) < um) := by omega
      have wum : IntKind.i64.wrap um = um := by simp [IntKind.wrap, IntKind.signed, IntKind.bits]; omega
      have c0 : wr.cell? ⟨eb, 0, none⟩ = some (.pointer (some ⟨a.sb, 0, none⟩)) := by
        obtain ⟨_, _, _, _, hh⟩ := hSy.eng
        rw [HEB.out]; exact hh.c0
      obtain ⟨sb, hsb⟩ : ∃ x, x = a.sb := ⟨_, rfl⟩
      rw [← hsb] at HUQ HRQ c0
      have HSB := Lib.hid hsb
      clear hSy hSI hur hroom hU hUr hum hmu hsb
      go_wp2_with fail
      go_quiet (first | (go_at_call 20; exact (HUQ.out _).mono fun _ _ ⟨h1, h2⟩ => ⟨h1, _, h2.symm⟩) | (go_at_call 69; exact (HRQ.out _).mono fun _ _ ⟨h1, h2⟩ => ⟨h1, _, h2.symm⟩))
      go_wp2_with fail
      obtain ⟨w4, hw4⟩ : ∃ w4, w4 = wr.drewN nq := ⟨_, rfl⟩
      have HS4 := Lib.hid (show Sys w4 a D room now disk log F by rw [hw4]; exact HSW.out.below (below_drewN (Below.refl _ _) nq))
      have HB4 := Lib.hid (show Below w2.heap.size w2 w4 by rw [hw4]; exact below_drewN HB3.out nq)
      rw [← hw4]
      clear hw4 c0 HSW humr wum hums HB3 HUQ HRQ hlt hatl hm1 hm2 HM
      have HTV4 := Lib.hid (show SlIn w4 (.slice tA Tl capT) (T.map Value.string) (fun b => ¬ a.own b ∧ ¬ F b) from (HTV.out.below HB4.out).mono fun b _ hb => HH.out.new b hb)
      obtain ⟨space, hspc⟩ : ∃ x, x = D.space := ⟨_, rfl⟩
      have HSPC := Lib.hid hspc
      have HSPL := Lib.hid (show space < 9223372036854775808 by rw [hspc]; exact HS4.out.eng.ok.space)
      have HW4 := Lib.hid (show Below w.heap.size w w4 from HB2.out.trans (HB4.out.mono HB2.out.size))
      have HG4 := Lib.hid (show Goes FS FS w4 w4 ∧ StoreAt w4 a.sb room now disk log D.age FS from ⟨Goes.refl (fun b hb => HS4.out.low b (HST0.out.2 b hb)), HST0.out.1.below HW4.out⟩)
      have heF : (fun b => F b ∨ FS b) = F := funext fun b => propext ⟨fun h => h.elim _root_.id (HST0.out.2 b), .inl⟩
      have HEF := Lib.hid heF
      clear hspc HB4 HAT HI hkn heF
      go_loopw [10] (fun av wr => ∃ (i at_ : Nat) (Gi : Nat → Prop), av = .int .i64 (at_ : Int) ∧ Hid (at_ = fi + i * p) ∧ Hid (i = 0 ∨ at_ < Tl + p) ∧ at_ ≤ Tl + 64 ∧ Hid (Sys wr a D room (recsA D T fi now i) disk (logA D T fi log i) (fun b => F b ∨ Gi b)) ∧ Hid (Goes FS Gi w4 wr ∧ StoreAt wr a.sb room (recsA D T fi now i) disk (logA D T fi log i) D.age Gi) ∧ Hid (SlIn wr (.slice tA Tl capT) (T.map Value.string) (fun b => ¬ a.own b ∧ ¬ (F b ∨ Gi b)))) (fun av _ => Tl - (intOf av).toNat)
      case atStart => exact ⟨0, fi, FS, rfl, Lib.hid (by simp), Lib.hid (.inl rfl), by omega, Lib.hid (by rw [HEF.out]; exact HS4.out), HG4, Lib.hid (HTV4.out.mono fun b _ hb => ⟨hb.1, fun hf => hb.2 (hf.elim _root_.id (HST0.out.2 b))⟩)⟩
      case round =>
        clear HS4 HG4 HTV4
        obtain ⟨i, at_, Gi, rfl, HAT, HI, hatl, HS, HGS, HTV5⟩ := hrel
        obtain ⟨Fi, hFi⟩ : ∃ Fi : Nat → Prop, Fi = fun b => F b ∨ Gi b := ⟨_, rfl⟩
        have HS := Lib.hid (show Sys wr a D room (recsA D T fi now i) disk (logA D T fi log i) Fi by rw [hFi]; exact HS.out)
        have HTV5 := Lib.hid (show SlIn wr (.slice tA Tl capT) (T.map Value.string) (fun b => ¬ a.own b ∧ ¬ Fi b) by rw [hFi]; exact HTV5.out)
        have HFi := Lib.hid (show ∀ b, Fi b ↔ F b ∨ Gi b from fun b => by rw [hFi])
        have HFE := Lib.hid hFi
        have HG := Lib.hid HGS.out.1
        have HSTG := Lib.hid HGS.out.2
        clear hFi
        have hkn : i ≤ n + 1 := steps_le hpp (by
          have h1 := HI.out
          have h2 := HAT.out
          rcases h1 with h1 | h1
          · exact .inl h1
          · by_cases hi0 : i = 0
            · exact .inl hi0
            · refine .inr ?_
              obtain ⟨i', rfl⟩ : ∃ i', i = i' + 1 := ⟨i - 1, by omega⟩
              rw [Nat.add_mul] at h2
              simp only [Nat.add_sub_cancel]
              have := HTE.out
              omega)
        by_cases hlt : at_ < Tl
        · have HPA := Lib.hid (show ∀ w', Below wr.heap.size wr w' → Calls Tryz.prog 66 #[.pointer (some ⟨eb, 0, none⟩)] w' fun r w'' => r = .returned (.int .i64 (p : Int)) ∧ w' = w'' from fun w' hb => by
            have := part_calls (HS.out.eng.below hb)
            rw [← HEB.out, ← HD.out.2.2.1] at this
            exact this)
          have HCU := Lib.hid (cutS_calls tA Tl capT at_ p HCLT.out (by omega) (by omega) (by omega) wr)
          have HSL := Lib.hid (slin_cutV T HTV5.out at_ p)
          have hTs : ∀ y ∈ T, y.size ≤ 4096 := by rw [HT.out.1]; exact HX.out.2
          have HWL := Lib.hid (wireLeaves_calls (seg T at_ p) (by rw [seg_len]; omega) (fun y hy => hTs y (List.mem_of_mem_drop (List.mem_of_mem_take hy))) _ wr (HSL.out.mono fun _ _ _ => trivial))
          obtain ⟨cv2, hcv2⟩ : ∃ x, x = cutV (.slice tA Tl capT) at_ p := ⟨_, rfl⟩
          rw [← hcv2] at HCU HWL
          have hps := partB_size D T hTs at_
          have hua := usedA D T hTs fi now i
          rw [← HD.out.2.2.1, HTLE.out] at hps hua
          obtain ⟨pb, hpb⟩ : ∃ x, x = partB D T at_ := ⟨_, rfl⟩
          rw [← hpb] at hps
          have HPB := Lib.hid (show mk (leavesL (seg T at_ p)) = pb by rw [hpb, HD.out.2.2.1]; rfl)
          rw [HPB.out] at HWL
          have hpbs : pb.size ≤ 270000 := by omega
          have HUB := Lib.hid (show usedR (recsA D T fi now i) + (pb.size + 52) ≤ room by
            have h1 := HU.out
            have h2 : min (i * p) (Tl - fi) ≤ n + 63 := by omega
            omega)
          have HLB := Lib.hid (show (logA D T fi log i).length ≤ 2999999997 ∧ (recsA D T fi now i).length < 1000000000 by
            rw [logA_len]
            have h1 := recsA_len D T fi now i
            have h2 := HLG.out
            omega)
          have HREC := Lib.hid (show recsA D T fi now (i + 1) = putR (recsA D T fi now i) (keyB space 4 at_) (frameV 4 at_ pb) ∧ logA D T fi log (i + 1) = logA D T fi log i ++ [.string (keyB space 4 at_), .string (frameV 4 at_ pb), .bool false] by
            rw [hpb, HSPC.out, show at_ = fi + i * D.part by rw [← HD.out.2.2.1]; exact HAT.out]
            exact ⟨rfl, rfl⟩)
          have hcell0 : wr.cell? ⟨eb, 0, none⟩ = some (.pointer (some ⟨sb, 0, none⟩)) ∧ wr.cell? ⟨eb, 9, none⟩ = some (.int .i64 (space : Int)) ∧ eb < wr.heap.size := by
            obtain ⟨_, _, _, _, hh⟩ := HS.out.eng
            rw [HEB.out, HSB.out, HSPC.out]
            exact ⟨hh.c0, hh.c9, hh.low (.inl rfl)⟩
          have HCELL := Lib.hid hcell0
          obtain ⟨at2, hat2⟩ : ∃ x, x = at_ + p := ⟨_, rfl⟩
          have has : (at_ : Int) + (p : Int) = (at2 : Int) := by omega
          have HA2 := Lib.hid (show at2 = fi + (i + 1) * p ∧ at2 < Tl + p ∧ at2 ≤ Tl + 64 ∧ at_ < at2 by have := HAT.out; rw [Nat.add_mul]; omega)
          clear hcv2 hps hua hpb hTs hkn hcell0 hat2
          go_wp2_with fail
          refine (HPA.out wr (Below.refl _ _)).mono ?_
          rintro r w5 ⟨rfl, rfl⟩
          go_wp2_with fail
          refine (HCU.out).mono ?_
          rintro r w5 ⟨rfl, rfl⟩
          go_wp2_with fail
          refine (HWL.out).mono ?_
          rintro r w5 ⟨rfl, hb5⟩
          have HB5 := Lib.hid hb5
          have c0 : w5.cell? ⟨eb, 0, none⟩ = some (.pointer (some ⟨sb, 0, none⟩)) := (hb5.cell (p := ⟨eb, 0, none⟩) HCELL.out.2.2).trans HCELL.out.1
          have c9 : w5.cell? ⟨eb, 9, none⟩ = some (.int .i64 (space : Int)) := (hb5.cell (p := ⟨eb, 9, none⟩) HCELL.out.2.2).trans HCELL.out.2.1
          have HS5 := Lib.hid ((HS.out.below hb5).below (w' := w5.drew) (Below.refl _ w5).drew)
          have hst := (HSTG.out.below HB5.out).below (w' := w5.drew) (Below.refl _ w5).drew
          rw [← HSB.out] at hst
          have HBP := Lib.hid (bookPut_calls space 4 at_ HSPL.out (by decide) (by decide) (by omega) pb (by omega) hst HUB.out HLB.out.1 HLB.out.2)
          clear hb5 hst
          go_wp2_with fail
          refine wp_region_tree (fun w' => w'.cell? ⟨eb, 0, none⟩ = some (.pointer (some ⟨sb, 0, none⟩)) ∧ w'.cell? ⟨eb, 9, none⟩ = some (.int .i64 (space : Int))) (.hd 0 (.hd 1 (.hd 2 (.hd 3 (.hd 4 (.hd 5 (.hd 6 (.hd 7 (.hd 8 (.hd 9 (.fk 10 (.fk 11 .nil .no) .no))))))))))) (by kernel_rfl) (by kernel_rfl) (fun _ _ d _ _ h => by cases d <;> exact h) ⟨c0, c9⟩ ?_
          iterate 10
            refine hdT ?_ ?_ (by rfl) (by rfl) (fun w' s1 => ?_) ?_ ?_
            rotate_left 2
            focus (obtain ⟨s1, s2⟩ := s1; go_simp; exact rfl)
            focus (go_simp; exact rfl)
          refine fkTn (by kernel_rfl) (by rfl) (by rfl) (fun K hK => ?_) noT
          go_wp2_with fail
          refine (HBP.out).mono ?_
          rintro r w6 ⟨rfl, G', hS6, hG6⟩
          refine hK _ _ ?_
          clear hK c0 c9
          have HS6 := Lib.hid (show Sys w6 a D room (recsA D T fi now (i + 1)) disk (logA D T fi log (i + 1)) (fun b => F b ∨ G' b) by
            rw [HREC.out.1, HREC.out.2]
            exact HS5.out.wrote (by rw [← HSB.out]; exact hS6.mono fun b _ hb => .inr hb) ⟨hG6.turn.mono fun b hb => .inl ((HFi.out b).2 (.inr hb)), fun b hb => hb.elim (fun h1 => .inl ((HFi.out b).2 (.inl h1))) (fun h1 => (hG6.own b h1).imp (fun h2 => (HFi.out b).2 (.inr h2)) _root_.id), fun b hb => hb.elim (fun h1 => Nat.lt_of_lt_of_le (HS5.out.low b ((HFi.out b).2 (.inl h1))) hG6.turn.size) (hG6.low b)⟩)
          have HSTG6 := Lib.hid (show StoreAt w6 a.sb room (recsA D T fi now (i + 1)) disk (logA D T fi log (i + 1)) D.age G' by
            rw [HREC.out.1, HREC.out.2, ← HSB.out]
            exact hS6)
          have HTT6 := Lib.hid (show Turn Gi wr w6 ∧ (∀ b, G' b → Gi b ∨ wr.heap.size ≤ b) from ⟨(Turn.of_below HB5.out).drew.trans hG6.turn, fun b hb => (hG6.own b hb).imp _root_.id (fun h => Nat.le_trans HB5.out.size h)⟩)
          have HG6 := Lib.hid (show Goes FS G' w4 w6 from HG.out.trans ⟨HTT6.out.1, HTT6.out.2, hG6.low⟩)
          have HTV6 := Lib.hid (show SlIn w6 (.slice tA Tl capT) (T.map Value.string) (fun b => ¬ a.own b ∧ ¬ (F b ∨ G' b)) from
            (HTV5.out.here.keep HTT6.out.1.size fun b hb hX => HTT6.out.1.block b hb (fun hg => hX.1.2 ((HFi.out b).2 (.inr hg)))).mono fun b hb hX => ⟨hX.1.1, fun hf => hf.elim (fun h1 => hX.1.2 ((HFi.out b).2 (.inl h1))) (fun h1 => (HTT6.out.2 b h1).elim (fun h2 => hX.1.2 ((HFi.out b).2 (.inr h2))) (fun hn => by have := hX.2; omega))⟩)
          clear hS6 hG6
          refine fkTn (by kernel_rfl) (by rfl) (by rfl) (fun K hK => ?_) noT
          go_wp2_with fail
          refine nilT ?_
          have hpa6 := part_calls HS6.out.eng
          rw [← HEB.out, ← HD.out.2.2.1] at hpa6
          have HPA6 := Lib.hid hpa6
          clear hpa6
          go_wp2_with fail
          refine (HPA6.out).mono ?_
          rintro r w7 ⟨rfl, rfl⟩
          go_wp2
          exact ⟨⟨i + 1, at2, G', rfl, Lib.hid HA2.out.1, Lib.hid (.inr HA2.out.2.1), HA2.out.2.2.1, HS6, Lib.hid ⟨HG6.out, HSTG6.out⟩, HTV6⟩, by have := HA2.out.2.2.2; simp [intOf]; omega⟩
        · have HI1 := Lib.hid (show 1 ≤ i from by
            by_cases hi0 : i = 0
            · exfalso
              have h1 := HAT.out
              rw [hi0] at h1
              simp at h1
              have h2 := HTE.out
              have h3 := HHX.out
              omega
            · omega)
          have HKN := Lib.hid hkn
          obtain ⟨AC, cC, c10⟩ := HS.out.eng.list_len
          rw [← HEB.out, ← HD.out.2.1] at c10
          have HSZ := Lib.hid (show ∀ w', Below wr.heap.size wr w' → Calls Tryz.prog 72 #[.pointer (some ⟨eb, 0, none⟩)] w' fun r w'' => r = .returned (.int .i64 (D.size : Int)) ∧ w' = w'' from fun w' hb => by
            have := size_calls (HS.out.eng.below hb)
            rw [← HEB.out] at this
            exact this)
          have hsz1 := D.size_pos
          have hsz2 := HS.out.eng.ok.size_le
          have HJ0 := Lib.hid (show D.L.length / D.size = D.L.length / D.size from rfl)
          obtain ⟨s, hs⟩ : ∃ s, s = D.size := ⟨_, rfl⟩
          have HSS := Lib.hid hs
          rw [← hs] at HSZ hsz1 hsz2
          obtain ⟨j0, hj0⟩ : ∃ j, j = len / s := ⟨_, rfl⟩
          have HJ := Lib.hid (show j0 = D.L.length / D.size by rw [hj0, HD.out.2.1, hs])
          have hj0l : j0 ≤ len := by rw [hj0]; exact Nat.div_le_self _ _
          have m1 : (len : Int).tdiv (s : Int) = (j0 : Int) := by rw [hj0]; rfl
          have m1b : (len : Int) / (s : Int) = (j0 : Int) := by rw [hj0]; simp
          have hs0 : ¬ ((s : Int) = 0) := by omega
          have hs0b : s ≠ 0 := by omega
          have w1j : IntKind.i64.wrap (j0 : Int) = (j0 : Int) := by simp [IntKind.wrap, IntKind.signed, IntKind.bits]; omega
          have HFI := Lib.hid (And.intro HS.out (And.intro HG.out HTV5.out))
          have HFS := Lib.hid HSTG.out
          clear hs hj0 hkn HAT HI hatl HS HG HTV5 hfl
          go_wp2_with fail
          go_quiet (first | (go_at_call 72; exact (HSZ.out _ (below_drewN (Below.refl _ _) _)).mono fun _ _ ⟨h1, h2⟩ => ⟨h1, _, h2.symm⟩))
          obtain ⟨wC, hwC⟩ : ∃ wC, wC = wr.drewN nq := ⟨_, rfl⟩
          have HBC := Lib.hid (show Below wr.heap.size wr wC by rw [hwC]; exact below_drewN (Below.refl _ _) nq)
          rw [← hwC]
          clear hwC m1 m1b hs0 hs0b w1j c10
          have HSZC := Lib.hid (show ∀ w', Below wC.heap.size wC w' → Calls Tryz.prog 72 #[.pointer (some ⟨eb, 0, none⟩)] w' fun r w'' => r = .returned (.int .i64 (s : Int)) ∧ w' = w'' from fun w' hb => HSZ.out w' (HBC.out.trans (hb.mono HBC.out.size)))
          have HFC := Lib.hid (show Sys wC a D room (recsA D T fi now i) disk (logA D T fi log i) Fi ∧ Goes FS Gi w4 wC ∧ SlIn wC (.slice tA Tl capT) (T.map Value.string) (fun b => ¬ a.own b ∧ ¬ Fi b) from
            ⟨HFI.out.1.below HBC.out, ⟨HFI.out.2.1.turn.trans (Turn.of_below HBC.out) |>.mono fun b hb => .inl hb, HFI.out.2.1.own, fun b hb => Nat.lt_of_lt_of_le (HFI.out.2.1.low b hb) HBC.out.size⟩, HFI.out.2.2.below HBC.out⟩)
          have HFSC := Lib.hid (HFS.out.below HBC.out)
          clear HSZ HBC HFI
          go_wp2_with fail
          go_loopw [14, 15] (fun tv jv wr => ∃ (k : Nat) (At : Option Addr) (ct : Nat), tv = .slice At k ct ∧ jv = .int .i64 ((j0 + k : Nat) : Int) ∧ j0 + k ≤ Tl + 1 ∧ Hid (wr.ownsRow wC.heap.size 3 1 tv k ((touchedL D k).map fun (j : Nat) => Value.int .i64 (j : Int))) ∧ Hid (Below wC.heap.size wC wr) ∧ Hid (∀ q, q < k → (j0 + q) * s < Tl)) (fun _ jv _ => Tl + 2 - (intOf jv).toNat)
          case atStart => exact ⟨0, none, 0, rfl, rfl, by omega, Lib.hid (by simpa [touchedL] using World.ownsRow_nil _ _ _ _), Lib.hid (Below.refl _ _), Lib.hid (fun q hq => absurd hq (Nat.not_lt_zero _))⟩
          case round =>
            obtain ⟨k, At, ct, rfl, rfl, hjk, HR, HBK, HQ⟩ := hrel
            obtain ⟨j, hj⟩ : ∃ j, j = j0 + k := ⟨_, rfl⟩
            have HJK := Lib.hid hj
            rw [← hj] at hjk ⊢
            obtain ⟨js, hjs⟩ : ∃ x, x = j * s := ⟨_, rfl⟩
            have hmul : (j : Int) * (s : Int) = (js : Int) := by rw [hjs]; simp
            have hjs1 : j ≤ js := by rw [hjs]; exact Nat.le_mul_of_pos_right _ hsz1
            have hjs2 : js ≤ 140737488355328 := by rw [hjs]; have := Nat.mul_le_mul (show j ≤ 68719476737 + 64 by omega) hsz2; omega
            have HJS := Lib.hid hjs
            clear hj hjs
            by_cases hlt2 : js < Tl
            · have HTK2 := Lib.hid (show (touchedL D (k + 1)).map (fun (j : Nat) => Value.int .i64 (j : Int)) = (touchedL D k).map (fun (j : Nat) => Value.int .i64 (j : Int)) ++ [.int .i64 (j : Int)] by
                unfold touchedL
                rw [List.range_succ, List.map_append, List.map_append]
                simp only [List.map_cons, List.map_nil]
                rw [HJK.out, HJ.out, Nat.add_comm])
              obtain ⟨us, hus⟩ : ∃ us, us = (touchedL D k).map (fun (j : Nat) => Value.int .i64 (j : Int)) := ⟨_, rfl⟩
              rw [← hus] at HR HTK2
              have hjT : j + 1 ≤ Tl + 1 := by omega
              have HQ2 := Lib.hid (show ∀ q, q < k + 1 → (j0 + q) * s < Tl from fun q hq => by
                by_cases hqk : q < k
                · exact HQ.out q hqk
                · rw [show q = k by omega, ← HJK.out, ← HJS.out]
                  exact hlt2)
              have hkT : k ≤ Tl + 1 := by have := HJK.out; omega
              clear hus
              go_wp2_with fail
              refine (HSZC.out wr HBK.out).mono ?_
              rintro r w6 ⟨rfl, rfl⟩
              go_wp2_with (at_builtin; go_must (refine wpList_append_lies _ rfl (.tmp 134) (.tmp 136) 73 rfl wC.heap.size 3 k0 (.int .i64 0) 1 8 Tryz.underlying73 hk0 hkz0 hkz1 hkz2 rfl (by decide) _ _ _ rfl (HR.out.alloc _) ⟨wr.heap.size, 0, none⟩ 1 1 [.int .i64 (j : Int)] rfl rfl (World.news_of_block (MapKept.heap_alloc _ _).1) (by intro u hu; simp at hu; subst hu; rfl) (by decide) (by unfold maxLen; omega) (by omega) (by have := HBK.out.size; simp; omega) _ rfl ?_))
              intro g3 cap3 w6 hown6 hgrow hat hltg
              have HR6 := Lib.hid (show w6.ownsRow wC.heap.size 3 1 (.slice (some ⟨g3, 0, none⟩) (k + 1) cap3) (k + 1) ((touchedL D (k + 1)).map fun (j : Nat) => Value.int .i64 (j : Int)) by rw [HTK2.out]; exact hown6)
              have HB6 := Lib.hid ((HBK.out.alloc HBK.out.size _).grown hgrow (by have := HBK.out.size; simp; omega) (fun k hk => own_ge HR.out hk))
              clear hown6 hgrow hat hltg
              go_wp2
              exact ⟨⟨k + 1, _, _, rfl, by have := HJK.out; congr 1; omega, by have := HJK.out; omega, HR6, HB6, HQ2⟩, by simp [intOf]; omega⟩
            · go_wp2_with fail
              refine (HSZC.out wr HBK.out).mono ?_
              rintro r w6 ⟨rfl, rfl⟩
              obtain ⟨lv6, rv6, sf6, ns6, hE6⟩ := HFC.out.1.eng.below HBK.out
              have f10 : wr.frozen? ⟨eb, 10, none⟩ = false := by rw [HEB.out]; exact hE6.froz 10
              have c10 : wr.cell? ⟨eb, 10, none⟩ = some lv6 := by rw [HEB.out]; exact hE6.c10
              have hE7 := hE6.relist (xs := xs) (v := .slice tA Tl capT) (by have := HFC.out.2.2.below HBK.out; rw [HT.out.1] at this; exact this) HX.out.1 (by rw [← HD.out.1, ← HD.out.2.1, ← HTE.out]; exact hlen) (by have := HHX.out; have := HD.out.1; omega)
              have HTC := Lib.hid (show D.L.length + xs.length ≤ (D.L.length / D.size + k) * D.size by
                rw [← HD.out.1, ← HD.out.2.1, ← HTE.out, HD.out.2.1, ← HJ.out, ← HJK.out, ← HSS.out, ← HJS.out]; omega)
              have HTL := Lib.hid (show ∀ j' ∈ touchedL D k, j' * D.size < D.L.length + xs.length from fun j' hj' => by
                obtain ⟨i', hi', rfl⟩ := List.mem_map.1 hj'
                have h1 := HQ.out i' (List.mem_range.1 hi')
                have e1 := HTE.out
                have e2 := HD.out.1
                have e3 := HD.out.2.1
                rw [HJ.out, HSS.out] at h1
                rw [Nat.add_comm i']
                omega)
              have hT7 : Turn (fun b => b = a.eb) wr (wr.setCell ⟨a.eb, 10, none⟩ (.slice tA Tl capT)) := (Turn.refl (fun b => b = a.eb) _).setCell (p := ⟨a.eb, 10, none⟩) (.inl rfl) _
              have hSLk := ((SlIn.of_own HR.out).keep (w' := wr.setCell ⟨a.eb, 10, none⟩ (.slice tA Tl capT)) hT7.size fun b hb hX => hT7.block b hb (fun e => by have := HFC.out.1.eng.low (b := a.eb) (.inl rfl); omega))
              have HEM := Lib.hid (eachMark_calls ⟨_, _, _, _, hE7⟩ (touchedL D k) (fun j' hj' => by
                obtain ⟨i', hi', rfl⟩ := List.mem_map.1 hj'
                have := List.mem_range.1 hi'
                have := HJ.out
                have := HJK.out
                omega) (by simp [touchedL]; have := HJK.out; omega) hSLk (fun b hb ho => by have := HFC.out.1.eng.low ho; omega))
              rw [← HEB.out] at HEM
              have HT7 := Lib.hid (HEB.out ▸ hT7)
              clear hE6 hE7 hT7 hSLk
              go_wp2_with fail
              refine (HEM.out).mono ?_
              rintro r w8 ⟨rfl, hE8, hT8⟩
              have ht78 : Turn a.own wr w8 := (HT7.out.mono fun b hb => .inl (.inl (hb.trans HEB.out))).trans (hT8.mono fun b hb => .inl hb)
              have hSr := HFC.out.1.below HBK.out
              have hFk : ∀ b, Fi b → w8.heap[b]? = wr.heap[b]? := fun b hb => ht78.block b (hSr.low b hb) (hSr.apart b hb)
              have HFIN := Lib.hid (show Sys w8 a ((D.grown xs).marks (touchedL D k)) room (recsA D T fi now i) disk (logA D T fi log i) Fi ∧ Turn (fun b => a.own b ∨ FS b) w w8 ∧ (∀ b, Gi b → FS b ∨ w.heap.size ≤ b) from
                ⟨⟨hE8, by rw [marks_eq]; exact hSr.sto.keep fun b hb hF => hFk b hF, fun b hb => Nat.lt_of_lt_of_le (hSr.low b hb) ht78.size, hSr.apart, grown_good hSr.good HTC.out, hSr.glob.turn ht78 hSr.eng.glb, hSr.gf⟩,
                  (Turn.of_below HW4.out).trans (((HFC.out.2.1.turn.mono fun b hb => .inl (.inr hb)).trans ((Turn.of_below HBK.out).trans (ht78.mono fun b hb => .inl (.inl hb)) |>.mono fun b hb => .inl hb)).mono fun b hb => .inl hb),
                  fun b hb => (HFC.out.2.1.own b hb).imp _root_.id fun h => Nat.le_trans HW4.out.size h⟩)
              have HSTF := Lib.hid (show StoreAt w8 a.sb room (recsA D T fi now i) disk (logA D T fi log i) D.age Gi from (HFSC.out.below HBK.out).keep fun b hb hG => hFk b ((HFi.out b).2 (.inr hG)))
              clear hE8 hT8 ht78 hSr hFk
              go_wp2_with fail
              go_ret
              exact ⟨rfl, Gi, i, k, HI1.out, HKN.out, by have := HFIN.out.1; rw [HFE.out] at this; exact this, HSTF.out, HFIN.out.2.1, HFIN.out.2.2, by rw [HD.out.1]; exact HTC.out, by rw [HD.out.1]; exact HTL.out⟩
theorem append_calls (h : Sys w a D room now disk log F) (xs : List ByteArray) (hx : ∀ x ∈ xs, x.size ≤ 4096) (h0 : 0 < xs.length) (hl : xs.length ≤ 1024) (hlen : D.L.length + xs.length ≤ 68719476736) {A : Option Addr} {cap : Nat} {Z : Nat → Prop} (hv : SlIn w (.slice A xs.length cap) (xs.map Value.string) Z) (hZ : ∀ b, Z b → ¬ a.own b ∧ ¬ F b)
    (hu : usedR now + (4200 * xs.length + 600000) ≤ room) (hlg : log.length ≤ 2000000000) (hnl : now.length ≤ 900000000) :
    Calls Tryz.prog 19 #[.pointer (some ⟨a.eb, 0, none⟩), .slice A xs.length cap] w fun r w' => r = .returned (.int .i64 0) ∧ ∃ F' k m, 1 ≤ k ∧ k ≤ xs.length + 1 ∧
      Sys w' a ((D.grown xs).marks (touchedL D m)) room (recsA D (D.L ++ xs) D.first now k) disk (logA D (D.L ++ xs) D.first log k) F' ∧ Turn (fun b => a.own b ∨ F b) w w' ∧ (∀ b, F' b → F b ∨ w.heap.size ≤ b) ∧ D.L.length + xs.length ≤ (D.L.length / D.size + m) * D.size ∧ (∀ j ∈ touchedL D m, j * D.size < D.L.length + xs.length) :=
  (append_callsG h h.sto (fun b hb => hb) xs hx h0 hl hlen hv hZ hu hlg hnl).mono fun r w' ⟨h1, F', k, m, g1, g2, g3, g4, g5, g6, g7, g8⟩ => ⟨h1, _, k, m, g1, g2, g3, g5, fun b hb => hb.elim .inl (g6 b), g7, g8⟩
end
end Go.Proofs.YtblkehdpenfhjaaGreatDoor
/-
  The store's Keys and the book's Wipe, on a store with no records; an engine made.
-/
set_option linter.unusedVariables false
set_option linter.unusedSimpArgs false
namespace Go.Proofs.YtblkehdpenfhjaaGreatDoor
open Go.RowKit Go.Maps Go.ChangeMaps Go.MapKept

theorem MapF.none {P : Program} {k : TypeId} {w : World} {b : Nat} {f : Lit → Option Value} (h : MapF P k w b f 0) : ∃ clock, w.heap[b]? = some (.map #[] clock) := by
  obtain ⟨D, h1, h2, _⟩ := h
  obtain ⟨es, clock, hb, _, hsz, _⟩ := MapF.shrink h1
  rw [h2] at hsz
  obtain rfl : es = #[] := Array.eq_empty_of_size_eq_zero (by omega)
  exact ⟨clock, hb⟩
theorem run_next_none {P : Program} (w : World) (ty : TypeId) (bm clk : Nat) (hb : w.heap[bm]? = some (.map #[] clk)) :
    (Instr.next (.pointer (some ⟨w.heap.size, 0, none⟩)) false ty).run P (w.alloc (.mapIter (some bm) clk #[] clk)) = .ok (.tuple #[.bool false]) (w.alloc (.mapIter (some bm) clk #[] clk)) := by
  rcases run_next_map (P := P) w ty bm clk clk #[] #[] clk hb (fun x hx => by simp at hx) (Nat.le_refl _) with h | ⟨e, he, _⟩
  · exact h.2
  · simp [leftOf] at he
set_option maxHeartbeats 4000000 in
set_option maxRecDepth 100000 in
theorem len64_0_calls (w : World) : Calls Tryz.prog 287 #[.int .u64 0] w fun r w' => r = .returned (.int .i64 0) ∧ w = w' := by
  go_enter Tryz.func287, Tryz.ntmps287
  go_wp2
  go_ret
  exact ⟨by kernel_rfl, rfl⟩
set_option maxHeartbeats 4000000 in
set_option maxRecDepth 100000 in
theorem insertion_none_calls (w : World) : Calls Tryz.prog 321 #[.slice none 0 0, .int .i64 0, .int .i64 0] w fun r w' => r = .returned (.tuple #[]) ∧ w = w' := by
  go_enter Tryz.func321, Tryz.ntmps321
  go_wp2_with fail
  go_loopw [6] (fun i wr => i = .int .i64 1 ∧ w = wr) (fun _ _ => 0)
  case atStart => exact ⟨rfl, rfl⟩
  case round =>
    obtain ⟨rfl, rfl⟩ := hrel
    go_wp2
    go_end0
    exact ⟨rfl, rfl⟩
set_option maxHeartbeats 4000000 in
set_option maxRecDepth 100000 in
theorem pdq_none_calls (w : World) : Calls Tryz.prog 276 #[.slice none 0 0, .int .i64 0, .int .i64 0, .int .i64 0] w fun r w' => r = .returned (.tuple #[]) ∧ w = w' := by
  go_enter Tryz.func276, Tryz.ntmps276
  go_wp2_with fail
  go_loopw [1, 2, 3] (fun a b c wr => a = .int .i64 0 ∧ b = .int .i64 0 ∧ c = .int .i64 0 ∧ w = wr) (fun _ _ _ _ => 0)
  case atStart => exact ⟨rfl, rfl, rfl, rfl⟩
  case round =>
    obtain ⟨rfl, rfl, rfl, rfl⟩ := hrel
    go_wp2_with fail
    refine (insertion_none_calls w).mono ?_
    rintro r w' ⟨rfl, rfl⟩
    go_wp2
    refine bodyPost_ret (results_none rfl _ _ _) rfl ?_
    exact ⟨rfl, rfl⟩
set_option maxHeartbeats 4000000 in
set_option maxRecDepth 100000 in
theorem sort_none_calls (w : World) : Calls Tryz.prog 216 #[.slice none 0 0] w fun r w' => r = .returned (.tuple #[]) ∧ w = w' := by
  go_enter Tryz.func216, Tryz.ntmps216
  go_wp2_with (first | (go_at_call 287; refine (len64_0_calls w).mono ?_; rintro r w' ⟨rfl, rfl⟩) | (go_at_call 276; refine (pdq_none_calls w).mono ?_; rintro r w' ⟨rfl, rfl⟩) | go_in)
  go_end0
  exact ⟨rfl, rfl⟩
section
variable {w w' : World} {a : EA} {D : ED} {X Y : Nat → Prop} {room : Nat} {now disk : Recs} {log : List Value} {F : Nat → Prop} {sb age : Nat}
set_option maxHeartbeats 4000000 in
set_option maxRecDepth 100000 in
theorem keys_none_calls (h : StoreAt w sb room [] disk log age F) (k : ByteArray) :
    Calls Tryz.prog 202 #[.pointer (some ⟨sb, 0, none⟩), .string k] w fun r w' => r = .returned (.slice none 0 0) ∧ Below w.heap.size w w' := by
  obtain ⟨⟨mb, kb, lv, h1, _⟩, _⟩ := h
  have c1 := cell_of_block (off := 1) h1.blk (by show 1 < 8; decide)
  have c5 := cell_of_block (off := 5) h1.blk (by show 5 < 8; decide)
  obtain ⟨clk, hm⟩ := MapF.none h1.now
  obtain ⟨w1, hw1⟩ : ∃ w1, w1 = w.alloc (.mapIter (some mb) clk #[] clk) := ⟨_, rfl⟩
  have hr : (Instr.range 103 (.map (some mb))).run Tryz.prog w = .ok (.pointer (some ⟨w.heap.size, 0, none⟩)) w1 := by rw [hw1]; exact run_range_map w _ _ _ mb #[] clk Tryz.underlying103 hm
  have hn : ∀ ty, (Instr.next (.pointer (some ⟨w.heap.size, 0, none⟩)) false ty).run Tryz.prog w1 = .ok (.tuple #[.bool false]) w1 := fun ty => by rw [hw1]; exact run_next_none w ty mb clk hm
  have HB := Lib.hid (show Below w.heap.size w w1 by rw [hw1]; exact (Below.refl _ _).alloc (Nat.le_refl _) _)
  clear h1 hm hw1
  go_enter Tryz.func202, Tryz.ntmps202
  go_wp2_with fail
  go_loopw [5] (fun a wr => a = .slice none 0 0 ∧ w1 = wr) (fun _ _ => 0)
  case atStart => exact ⟨rfl, rfl⟩
  case round =>
    obtain ⟨rfl, rfl⟩ := hrel
    go_wp2_with fail
    refine (sort_none_calls w1).mono ?_
    rintro r w' ⟨rfl, rfl⟩
    go_wp2
    go_ret
    exact ⟨rfl, HB.out⟩
end
end Go.Proofs.YtblkehdpenfhjaaGreatDoor
/-
  Wipe of an empty store; shard's goes and asked.
-/
set_option linter.unusedVariables false
set_option linter.unusedSimpArgs false
namespace Go.Proofs.YtblkehdpenfhjaaGreatDoor
open Go.RowKit Go.Maps Go.ChangeMaps Go.MapKept

section
variable {w w' : World} {a : EA} {D : ED} {X Y : Nat → Prop} {room : Nat} {now disk : Recs} {log : List Value} {F : Nat → Prop} {sb age : Nat}
theorem StoreAt.down_calls (h : StoreAt w sb room now disk log age F) : Calls Tryz.prog 39 #[.pointer (some ⟨sb, 0, none⟩)] w fun r w' => r = .returned (.bool false) ∧ w = w' := by
  obtain ⟨⟨mb, kb, lv2, h1, _⟩, _⟩ := h
  exact Go.Proofs.YtblkehdpenfhjaaGreatDoor.down_calls h1
theorem StoreAt.age_calls (h : StoreAt w sb room now disk log age F) : Calls Tryz.prog 128 #[.pointer (some ⟨sb, 0, none⟩)] w fun r w' => r = .returned (.int .i64 age) ∧ w = w' := by
  obtain ⟨⟨mb, kb, lv2, h1, _⟩, _⟩ := h
  exact Go.Proofs.YtblkehdpenfhjaaGreatDoor.age_calls h1
set_option maxHeartbeats 4000000 in
set_option maxRecDepth 100000 in
theorem wipe_none_calls (h : StoreAt w sb room [] disk log age F) (n : Nat) (hn : n < 9223372036854775808) :
    Calls Tryz.prog 127 #[.pointer (some ⟨sb, 0, none⟩), .int .i64 n] w fun r w' => r = .returned (.tuple #[.int .i64 0, .int .i64 0]) ∧ Below w.heap.size w w' := by
  have HDN := Lib.hid h.down_calls
  have HP := Lib.hid (prefix_calls n hn w)
  obtain ⟨k, hk⟩ : ∃ k, k = mk (66 :: beL 8 n) := ⟨_, rfl⟩
  rw [← hk] at HP
  have HK := Lib.hid fun w' (hb : Below w.heap.size w w') => keys_none_calls (h.below hb) k
  have n0 : ¬ ((n : Int) < 0) := by omega
  clear h hk hn
  go_enter Tryz.func127, Tryz.ntmps127
  go_wp2_with fail
  refine (HDN.out).mono ?_
  rintro r w1 ⟨rfl, rfl⟩
  go_wp2_with fail
  refine (HP.out).mono ?_
  rintro r w1 ⟨rfl, hb1⟩
  have HB1 := Lib.hid hb1
  clear hb1
  go_wp2_with fail
  refine (HK.out w1 HB1.out).mono ?_
  rintro r w2 ⟨rfl, hb2⟩
  have HB2 := Lib.hid (HB1.out.trans (hb2.mono HB1.out.size))
  clear hb2
  go_wp2_with fail
  go_loopw [20] (fun a wr => a = .int .i64 0 ∧ w2 = wr) (fun _ _ => 0)
  case atStart => exact ⟨rfl, rfl⟩
  case round =>
    obtain ⟨rfl, rfl⟩ := hrel
    go_wp2
    go_ret2
    exact ⟨rfl, HB2.out⟩
def optV (W B : Nat) : Value := .agg #[.int .i64 3, .int .i64 W, .int .i64 0, .int .i64 0, .int .i64 0, .int .i64 B]
set_option maxHeartbeats 4000000 in
set_option maxRecDepth 100000 in
theorem goes_calls (W B : Nat) (h1 : 1 ≤ W) (h2 : W ≤ 32) (h3 : B ≤ 10) (w : World) :
    Calls Tryz.prog 157 #[optV W B] w fun r w' => r = .returned (.bool true) ∧ Below w.heap.size w w' := by
  have HBX := Lib.hid (((Below.refl w.heap.size w).alloc (Nat.le_refl _) (.cells #[.int .i64 3, .int .i64 W, .int .i64 0, .int .i64 0, .int .i64 0, .int .i64 B] 25)))
  have k1 : (1 : Int) ≤ (W : Int) := by omega
  have k2 : (W : Int) ≤ 32 := by omega
  have k3 : (0 : Int) ≤ (B : Int) := by omega
  have k4 : (B : Int) ≤ 10 := by omega
  unfold optV
  go_enter Tryz.func157, Tryz.ntmps157
  go_wp2
  go_ret
  exact ⟨rfl, HBX.out⟩
set_option maxHeartbeats 4000000 in
set_option maxRecDepth 100000 in
theorem asked_calls (h : StoreAt w sb room now disk log age F) (W B : Nat) (h1 : 1 ≤ W) (h2 : W ≤ 32) (h3 : B ≤ 10) (n : Nat) :
    Calls Tryz.prog 93 #[.pointer (some ⟨sb, 0, none⟩), optV W B, .int .i64 n] w fun r w' => r = .returned (.int .i64 0) ∧ Below w.heap.size w w' := by
  have HB0 := Lib.hid ((Below.refl w.heap.size w).alloc (Nat.le_refl _) (.cells #[.int .i64 3, .int .i64 W, .int .i64 0, .int .i64 0, .int .i64 0, .int .i64 B] 25))
  have HG := Lib.hid (goes_calls W B h1 h2 h3)
  have HS := Lib.hid fun w' (hb : Below w.heap.size w w') => (h.below hb).down_calls
  have n0 : ¬ ((n : Int) < 0) := by omega
  clear h h1 h2 h3
  unfold optV at *
  go_enter Tryz.func93, Tryz.ntmps93
  go_wp2_with fail
  refine (HG.out _).mono ?_
  rintro r w1 ⟨rfl, hb1⟩
  have HB1 := Lib.hid (HB0.out.trans (hb1.mono (by simp)))
  clear hb1
  go_wp2_with fail
  refine (HS.out w1 HB1.out).mono ?_
  rintro r w2 ⟨rfl, rfl⟩
  go_wp2
  go_ret
  exact ⟨rfl, HB1.out⟩
end
end Go.Proofs.YtblkehdpenfhjaaGreatDoor
