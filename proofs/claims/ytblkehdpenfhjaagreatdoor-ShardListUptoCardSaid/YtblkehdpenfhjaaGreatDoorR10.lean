import Derived.Test.YtblkehdpenfhjaaGreatDoorR9
import Derived.Sort.KeysCollected
import Derived.Shelf.Strings.BuilderK
import Derived.Shelf.SlIterI.Nil
import Derived.Shelf.SortM.Plain
import Derived.Shelf.SortM.SortNone
import Derived.Test.YtblkehdpenfhjaaGreatDoorProg
import Derived.Lib.SlKeysI
set_option linter.unnecessarySimpa false
set_option linter.unusedVariables false
set_option linter.unusedSimpArgs false
/-
  The image of a store, plain: the keys of a map of records, rising; what is written of them; what a log of Puts leaves.
-/
set_option linter.unusedVariables false
set_option linter.unusedSimpArgs false
namespace Go.Proofs.YtblkehdpenfhjaaGreatDoor
open Go.RowKit Go.Maps Go.ChangeMaps Go.MapKept

/-- the keys of a map of records, rising, none twice -/
def KeysAre (g : Lit → Option Value) (ss : List (List UInt8)) : Prop := ss.Pairwise (fun x y => leB x y = true) ∧ ss.Nodup ∧ ∀ x, x ∈ ss ↔ (g (.string x)).isSome = true
theorem KeysAre.one {g : Lit → Option Value} {ss tt : List (List UInt8)} (h : KeysAre g ss) (k : KeysAre g tt) : ss = tt := by
  have hp : ss.Perm tt := (List.perm_ext_iff_of_nodup h.2.1 k.2.1).2 fun x => (h.2.2 x).trans (k.2.2 x).symm
  refine List.Perm.eq_of_pairwise (le := fun a b => leB a b = true) (fun a b _ _ h1 h2 => ?_) h.1 k.1 hp
  simp only [leB, decide_eq_true_eq] at h1 h2
  exact List.le_antisymm h1 h2
theorem KeysAre.none {ss : List (List UInt8)} (h : KeysAre (fun _ => none) ss) : ss = [] := by
  cases ss with
  | nil => rfl
  | cons a r => have := (h.2.2 a).1 (by simp); simp at this
/-- what a map's keys are that were collected and sorted -/
theorem keysAre_of {P : Program} {k : TypeId} {w : World} {b n : Nat} {f : Lit → Option Value} {D : DataW Value} (hk : P.underlying k = some .string) (K : Keyed P k) (ho : w.ownsMap P k tok b n D) (hsz : Maps.size D = n) (hh : ∀ l, Maps.has D l = (f l).isSome)
    {ss : List (List UInt8)} (hp : ss.Perm (strKeys D)) : KeysAre f (ss.mergeSort leB) ∧ (ss.mergeSort leB).length = n := by
  obtain ⟨es, hD, hpw, _⟩ := ho.entries K
  obtain ⟨es', hD', hko⟩ := ho.keysOf
  obtain rfl : es = es' := by rw [hD] at hD'; injection hD'
  subst hD
  have hst : ∀ p ∈ es, ∃ x, p.1 = .string x := fun p hp => by
    obtain ⟨v, hv⟩ := hko p hp
    obtain ⟨x, _, hx, _⟩ := Maps.keyOf_str hk hv
    exact ⟨x, hx⟩
  have hnd : (strKeys (.map es)).Nodup := by
    show (es.map fun p => strOf p.1).Nodup
    refine List.pairwise_map.2 (hpw.imp_of_mem fun {p q} h1 h2 hne e => hne ?_)
    obtain ⟨x, hx⟩ := hst p h1
    obtain ⟨y, hy⟩ := hst q h2
    rw [hx, hy] at e ⊢
    exact congrArg _ e
  have hmem : ∀ x, x ∈ strKeys (.map es) ↔ (f (.string x)).isSome = true := fun x => by
    rw [← hh, has_eq, List.any_eq_true]
    show x ∈ es.map (fun p => strOf p.1) ↔ _
    rw [List.mem_map]
    constructor
    · rintro ⟨p, h1, rfl⟩
      obtain ⟨y, hy⟩ := hst p h1
      exact ⟨p, h1, by rw [hy]; simp [Lit.sameKey, strOf]⟩
    · rintro ⟨p, h1, h2⟩
      obtain ⟨y, hy⟩ := hst p h1
      rw [hy] at h2
      exact ⟨p, h1, by rw [hy]; simpa [Lit.sameKey, strOf] using h2⟩
  have hms : (ss.mergeSort leB).Perm (strKeys (.map es)) := (List.mergeSort_perm ss leB).trans hp
  have tr : ∀ a b c : List UInt8, leB a b = true → leB b c = true → leB a c = true := fun a b c h1 h2 => by simp only [leB, decide_eq_true_eq] at *; exact List.le_trans h1 h2
  have tot : ∀ a b : List UInt8, (leB a b || leB b a) = true := fun a b => by simp only [leB, Bool.or_eq_true, decide_eq_true_eq]; exact List.le_total a b
  refine ⟨⟨List.pairwise_mergeSort tr tot ss, hms.symm.nodup hnd, fun x => ?_⟩, ?_⟩
  · rw [hms.mem_iff]
    exact hmem x
  · rw [hms.length_eq, ← hsz]
    show (es.map fun p => strOf p.1).length = _
    rw [List.length_map]
    rfl
/-- a record's data -/
def dataOf (g : Lit → Option Value) (k : List UInt8) : ByteArray := match g (.string k) with
  | some (.string v) => v
  | _ => ⟨#[]⟩
theorem dataOf_at (r : Recs) (k : ByteArray) : dataOf (recF r) k.data.toList = (getR r k).getD ⟨#[]⟩ := by
  unfold dataOf
  have := recF_at r k
  unfold litK at this
  rw [this]
  cases getR r k <;> rfl
def be4L (n : Nat) : List UInt8 := [UInt8.ofNat (n / 16777216), UInt8.ofNat (n / 65536), UInt8.ofNat (n / 256), UInt8.ofNat n]
/-- what an image has of a record -/
def recL (g : Lit → Option Value) (k : List UInt8) : List UInt8 := [UInt8.ofNat k.length] ++ k ++ be4L (dataOf g k).size ++ (dataOf g k).data.toList
def imgL (g : Lit → Option Value) (ss : List (List UInt8)) : List UInt8 := 83 :: ss.flatMap (recL g)
theorem recL_len (g : Lit → Option Value) (k : List UInt8) : (recL g k).length = k.length + (dataOf g k).size + 5 := by
  unfold recL
  rw [List.length_append, List.length_append, List.length_append]
  have h1 : (be4L (dataOf g k).size).length = 4 := rfl
  have h2 : [UInt8.ofNat k.length].length = 1 := rfl
  have h3 : (dataOf g k).data.toList.length = (dataOf g k).size := Array.length_toList
  rw [h1, h2, h3]
  omega
/-- the keys and the data are within the store's bounds -/
def SmallD (r : Recs) : Prop := ∀ k u, getR r k = some u → k.size ≤ 64 ∧ u.size ≤ 1048576
theorem SmallD.put {r : Recs} (h : SmallD r) (k v : ByteArray) (hk : k.size ≤ 64) (hv : v.size ≤ 1048576) : SmallD (putR r k v) := fun x u hx => by
  by_cases e : x = k
  · subst e; rw [getR_put_same] at hx; injection hx with hx; subst hx; exact ⟨hk, hv⟩
  · rw [getR_put_other _ _ e] at hx; exact h x u hx
theorem SmallD.rec {r : Recs} (h : SmallD r) {k : List UInt8} (hk : (recF r (.string k)).isSome = true) : k.length ≤ 64 ∧ (dataOf (recF r) k).size ≤ 1048576 ∧ (recL (recF r) k).length ≤ 1048645 := by
  have e : k = (ByteArray.mk k.toArray).data.toList := by simp
  have h1 := recF_at r ⟨k.toArray⟩
  unfold litK at h1
  rw [← e] at h1
  rw [h1] at hk
  cases hg : getR r ⟨k.toArray⟩ with
  | none => rw [hg] at hk; cases hk
  | some u =>
    have h2 := h _ _ hg
    have h3 : dataOf (recF r) k = u := by
      have := dataOf_at r ⟨k.toArray⟩
      rw [← e, hg] at this
      exact this
    have h4 : (ByteArray.mk k.toArray).size = k.length := by simp [ByteArray.size]
    refine ⟨by omega, by rw [h3]; exact h2.2, ?_⟩
    rw [recL_len, h3]
    omega
theorem flat_le (f : List UInt8 → List UInt8) (c : Nat) : ∀ ss : List (List UInt8), (∀ s ∈ ss, (f s).length ≤ c) → (ss.flatMap f).length ≤ ss.length * c
  | [], _ => by simp
  | a :: r, h => by
    have h1 := flat_le f c r (fun s hs => h s (List.mem_cons_of_mem _ hs))
    have h2 := h a (by simp)
    rw [List.flatMap_cons, List.length_append, List.length_cons, Nat.add_mul]
    omega
/-- what these writes leave -/
def putsR (r : Recs) (ps : Recs) : Recs := ps.foldl (fun r p => putR r p.1 p.2) r
theorem putsR_len (ps : Recs) : ∀ r, (putsR r ps).length ≤ r.length + ps.length := by
  induction ps with
  | nil => intro r; exact Nat.le_refl _
  | cons p ps ih => intro r; have h1 := ih (putR r p.1 p.2); have h2 := putR_len_le r p.1 p.2; simp only [putsR, List.foldl_cons, List.length_cons] at *; omega
theorem putsR_small {ps : Recs} : ∀ {r : Recs}, SmallD r → PutsOk ps → SmallD (putsR r ps) := by
  induction ps with
  | nil => intro r h _; exact h
  | cons p ps ih => intro r h hp; exact ih (h.put p.1 p.2 (hp p (by simp)).2.1 (hp p (by simp)).2.2) (fun q hq => hp q (List.mem_cons_of_mem _ hq))
theorem putsR_take (ps : Recs) (r : Recs) (i : Nat) (h : i < ps.length) : putsR r (ps.take (i + 1)) = putR (putsR r (ps.take i)) ps[i].1 ps[i].2 := by
  unfold putsR
  rw [List.take_succ_eq_append_getElem h, List.foldl_append]
  rfl
theorem wlog_at (ps : Recs) : ∀ (i : Nat) (h : i < ps.length), (wlog ps)[i * 3]? = some (.string ps[i].1) ∧ (wlog ps)[i * 3 + 1]? = some (.string ps[i].2) ∧ (wlog ps)[i * 3 + 2]? = some (.bool false) := by
  induction ps with
  | nil => intro i h; simp at h
  | cons p ps ih =>
    obtain ⟨k, v⟩ := p
    intro i h
    cases i with
    | zero => simp [wlog]
    | succ i =>
      have := ih i (by simpa using h)
      have e : (i + 1) * 3 = i * 3 + 3 := by omega
      rw [e]
      simpa [wlog] using this
end Go.Proofs.YtblkehdpenfhjaaGreatDoor
/-
  Package store: records.sorted; Builder.Write; Image.
-/
set_option linter.unusedVariables false
set_option linter.unusedSimpArgs false
namespace Go.Proofs.YtblkehdpenfhjaaGreatDoor
open Go.RowKit Go.Maps Go.ChangeMaps Go.MapKept Go.Sort Go.Shelf

theorem sortsA (m : Nat) : AnyZ.SortsIn Tryz.prog sortedA_ren Fence.wide m :=
  ⟨fun blk off cap ss W hH hblk hsz => callsIn_wide.2 (AnyM.slices_Sort_string sortA blk off cap ss W hH hblk hsz),
   fun p cap W => callsIn_wide.2 (AnyM.slices_Sort_string_none sortA p cap W)⟩
set_option maxHeartbeats 4000000 in
set_option maxRecDepth 100000 in
theorem sorted_calls {w : World} {b nn : Nat} {f : Lit → Option Value} (h : MapF Tryz.prog 9 w b f nn) (hmax : nn ≤ 1000000000) :
    Calls Tryz.prog 76 #[.map (some b)] w fun e w' => ∃ (v : Value) (ss : List (List UInt8)), e = .returned v ∧ KeysAre f ss ∧ ss.length = nn ∧ w'.ownsRow w.heap.size 9 1 v ss.length (ss.map encStr) ∧ Below w.heap.size w w' := by
  obtain ⟨D, hown, hsz, hhas, _⟩ := h
  have HK := Lib.hid (fun (ss : List (List UInt8)) (hp : ss.Perm (strKeys D)) => keysAre_of Tryz.underlying9 keyedS hown hsz hhas hp)
  refine (callsIn_wide (n := 6)).1 ?_
  have hbl := hown.lt
  have hseq : SeqGives Fence.wide 2 Tryz.prog 217 #[.pointer (some ⟨w.heap.size, 0, none⟩)] encStr (fun ss => ss.Perm (strKeys D)) (Maps.size D) (w.alloc (.cells #[.map (some b)] 103)) :=
    AnyZ.keys_gives (ρ := keysA_ren) { keysA with } Fence.wide _ trivial rfl (by omega) w.heap.size b nn D _ (by simp) (by simp) (by
      obtain ⟨es, clock, hb, Ft, hs, hD⟩ := hown
      exact ⟨es, clock, (Below.heap_alloc _ _ b hbl).trans hb, Ft, hs, hD⟩)
  have cK : ∀ mb W, CallsIn Fence.wide 5 Tryz.prog 142 #[.map mb] W fun e w' => e = .returned (.func (.func 217) #[] #[.pointer (some ⟨W.heap.size, 0, none⟩)]) ∧ w' = W.alloc (.cells #[.map mb] 103) := fun mb W => AnyZ.keys_in keysA Fence.wide 5 trivial rfl mb W
  have cS := AnyZ.sorted_in sortedA Fence.wide 5 trivial trivial trivial trivial rfl (by omega) (sortsA _) (enters_of Tryz.func216 (by kernel_rfl) rfl) 217 #[.pointer (some ⟨w.heap.size, 0, none⟩)] trivial (enters_of Tryz.func217 (by kernel_rfl) rfl) _ _ (by rw [hsz]; unfold maxLen; omega) (by rw [hsz]; omega) _ hseq
  change CallsIn _ _ Tryz.prog 141 _ _ _ at cS
  have hfK : Fence.wide.fn 142 := trivial
  have hfS : Fence.wide.fn 141 := trivial
  have CS := Lib.hid cS
  clear hown hsz hhas hseq cS
  refine callsIn_of_wp Tryz.func76 rfl trivial ?_ rfl
  simp only [Tryz.ntmps76, List.size_toArray, List.length_cons, List.length_nil, Nat.reduceAdd, Nat.reduceSub, Array.replicate_succ, Array.replicate_zero, List.push_toArray, List.append_toArray, List.nil_append, List.cons_append]
  gi_wp2_with (first
    | (gi_at_call 142; refine (cK _ _).mono ?_; rintro e w' ⟨rfl, rfl⟩)
    | (gi_at_call 141; refine (CS.out).mono ?_; rintro e w' ⟨v, ss, rfl, hS, hrow, hnil, hb⟩))
  go_ret
  obtain ⟨k1, k2⟩ := HK.out ss hS
  exact ⟨v, _, rfl, k1, k2, ownsRow_base_a (by rw [List.length_mergeSort]; exact hrow) (by simp), ((Below.refl _ w).alloc (Nat.le_refl _) _).trans (hb.mono (by simp))⟩
end Go.Proofs.YtblkehdpenfhjaaGreatDoor
/-
  Package store: Pending, settle and Sync over a log of Puts.
-/
set_option linter.unusedVariables false
set_option linter.unusedSimpArgs false
namespace Go.Proofs.YtblkehdpenfhjaaGreatDoor
open Go.RowKit Go.Maps Go.ChangeMaps Go.MapKept

section
variable {w w' : World} {sb room age : Nat} {now disk : Recs} {log : List Value} {F : Nat → Prop}
theorem own_slice {w : World} {B : Nat} {e : TypeId} {sz n : Nat} {v : Value} {us : List Value} (h : w.ownsRow B e sz v n us) : ∃ A c, v = .slice A n c := by
  rcases h.2 with ⟨h, hn⟩ | ⟨g, cap, cur, h, _⟩
  · exact ⟨none, 0, by rw [h, hn]⟩
  · exact ⟨_, _, h⟩
set_option maxRecDepth 100000 in
set_option maxHeartbeats 2000000 in
theorem pending_calls (h : StoreAt w sb room now disk log age F) :
    Calls Tryz.prog 21 #[.pointer (some ⟨sb, 0, none⟩)] w fun r w' => r = .returned (.int .i64 (log.length / 3 : Nat)) ∧ w = w' := by
  obtain ⟨⟨mb, kb, lv, h1, _⟩, _⟩ := h
  obtain ⟨A, c, rfl⟩ := own_slice h1.own
  have c3 := cell_of_block (off := 3) h1.blk (by show 3 < 8; decide)
  obtain ⟨n, hn⟩ : ∃ n, n = log.length / 3 := ⟨_, rfl⟩
  dsimp only [List.getElem_toArray, List.getElem_cons_zero, List.getElem_cons_succ] at c3
  rw [← hn] at c3 ⊢
  clear h1 hn
  go_enter Tryz.func21, Tryz.ntmps21
  go_wp2
  go_ret
  exact ⟨rfl, rfl⟩
set_option maxRecDepth 100000 in
theorem storeUsed_calls (h : StoreAt w sb room now disk log age F) :
    Calls Tryz.prog 20 #[.pointer (some ⟨sb, 0, none⟩)] w fun r w' => r = .returned (.int .i64 (usedR now)) ∧ w = w' := by
  obtain ⟨⟨mb, kb, lv, h1, _⟩, _⟩ := h
  exact used_calls h1
set_option maxRecDepth 100000 in
theorem sync1_calls (i : Int) (w : World) : Calls Tryz.prog 82 #[.int .i64 i] w fun r w' => r = .returned (.bool true) ∧ w = w' := by
  go_enter Tryz.func82, Tryz.ntmps82
  go_wp2
  go_ret
  exact ⟨rfl, rfl⟩
set_option maxRecDepth 100000 in
set_option maxHeartbeats 8000000 in
theorem settle_calls {ps : Recs} (h : StoreAt w sb room now disk (wlog ps) age F) (hF : ∀ b, F b → b < w.heap.size) (hp : PutsOk ps) (hlen : disk.length + ps.length ≤ 100000000) :
    Calls Tryz.prog 81 #[.pointer (some ⟨sb, 0, none⟩), .func (.func 82) #[] #[]] w fun r w' => r = .returned (.tuple #[]) ∧ StoreAt w' sb room now (putsR disk ps) [] age F ∧ Goes F F w w' := by
  obtain ⟨⟨mb, kb, lv, h1, h2, h3, h4, h5, h6⟩, r1, r2, r3, r4, r5, r6⟩ := h
  obtain ⟨A, cap, rfl⟩ := own_slice h1.own
  obtain ⟨n, hn⟩ : ∃ n, n = ps.length := ⟨_, rfl⟩
  have hwl : (wlog ps).length / 3 = n := by rw [wlog_len, hn]; omega
  rw [hwl] at h1
  have hsk : sb ≠ kb := by
    rintro rfl
    obtain ⟨es, cl, he⟩ := h1.disk.entries
    have := h1.blk.symm.trans he
    injection this with this
    cases this
  have HC := Lib.hid (show ∀ w', Turn (fun b => b = kb) w w' → ∀ k, w'.cell? ⟨sb, k, none⟩ = w.cell? ⟨sb, k, none⟩ from fun w' ht k => by
    have := ht.block sb h1.lt hsk
    simp only [World.cell?, this])
  have c2 := cell_of_block (off := 2) h1.blk (by show 2 < 8; decide)
  have c3 := cell_of_block (off := 3) h1.blk (by show 3 < 8; decide)
  dsimp only [List.getElem_toArray, List.getElem_cons_zero, List.getElem_cons_succ] at c2 c3
  have HCL := Lib.hid (show 0 < n → ∃ b o, A = some ⟨b, o, none⟩ ∧ ∀ w', Turn (fun b => b = kb) w w' → ∀ i (hi : i < ps.length), w'.cell? ⟨b, o + i * 3, none⟩ = some (.string ps[i].1) ∧ w'.cell? ⟨b, o + i * 3 + 1, none⟩ = some (.string ps[i].2) ∧ w'.cell? ⟨b, o + i * 3 + 2, none⟩ = some (.bool false) from fun h0 => by
    rcases h1.own.2 with ⟨hv, hz⟩ | ⟨g, cap', cur, hv, q2, q3, q4⟩
    · omega
    · injection hv with e1 e2 e3
      refine ⟨g, 0, e1, fun w' ht i hi => ?_⟩
      have hgk : g ≠ kb := by
        rintro rfl
        obtain ⟨es, cl, he⟩ := h1.disk.entries
        have := q3.symm.trans he
        injection this with this
        cases this
      have hblk := ht.block g (block_lt q3) hgk
      have hcell : ∀ j u, (wlog ps)[j]? = some u → w'.cell? ⟨g, j, none⟩ = some u := fun j u hu => by
        have := World.ownsRow.cells (g := g) h1.own (by rw [e1]; rfl) j u hu
        rw [Addr.add_lit, Nat.zero_add] at this
        rw [← this]
        simp only [World.cell?, hblk]
      obtain ⟨p1, p2, p3⟩ := wlog_at ps i hi
      rw [Nat.zero_add]
      exact ⟨hcell _ _ p1, hcell _ _ p2, hcell _ _ p3⟩)
  have H1 := Lib.hid h1
  have HN := Lib.hid hn
  have HP := Lib.hid hp
  have HMK := Lib.hid h1.disk
  have hnb : n ≤ 100000000 := by omega
  clear h1 hn hp hwl
  go_enter Tryz.func81, Tryz.ntmps81
  go_wp2_with fail
  refine wp_region_quietQ (fun w' => Hid (Below w.heap.size w w')) (by kernel_rfl) (by kernel_rfl) (Lib.hid (below_drewN (Below.refl _ w) 1)) ?_
  iterate 12
    refine valQ ?_ ?_ (by rfl) (fun w' s1 => ?_) ?_ ?_
    rotate_left 2
    focus (have d2 := (s1.out.cell (p := ⟨sb, 2, none⟩) (H1.out.lt)).trans c2; go_simp; exact rfl)
    focus (go_simp; exact rfl)
  refine nilQ (fun w1 s1 => ?_)
  have HB1 := s1
  clear s1
  have d3 := (HB1.out.cell (p := ⟨sb, 3, none⟩) (H1.out.lt)).trans c3
  clear c2 c3
  go_wp2_with fail
  clear d3
  have HWF := Lib.hid (show ∀ b, b < w.heap.size → b < w1.heap.size from fun b hb => Nat.lt_of_lt_of_le hb HB1.out.size)
  go_loopw [24] (fun iv wr => ∃ (i : Nat), iv = .int .i64 (i : Int) ∧ i ≤ n ∧ Hid (MapF Tryz.prog 9 wr kb (recF (putsR disk (ps.take i))) (putsR disk (ps.take i)).length ∧ Turn (fun b => b = kb) w wr)) (fun iv _ => n + 1 - (intOf iv).toNat)
  case atStart =>
    exact ⟨0, rfl, by omega, Lib.hid ⟨by rw [List.take_zero]; exact HMK.out.keep (HB1.out.block kb HMK.out.lt), Turn.of_below HB1.out⟩⟩
  case round =>
    obtain ⟨i, rfl, hin, HI⟩ := hrel
    by_cases hi : i < n
    · obtain ⟨b, o, rfl, hcells⟩ := HCL.out (by omega)
      have hip : i < ps.length := by rw [← HN.out]; exact hi
      obtain ⟨d0, d1, d2⟩ := hcells wr HI.out.2 i hip
      have hpk := HP.out _ (List.getElem_mem hip)
      have htk := putsR_take ps disk i hip
      obtain ⟨k, hk⟩ : ∃ k, k = ps[i].1 := ⟨_, rfl⟩
      obtain ⟨v, hv⟩ : ∃ v, v = ps[i].2 := ⟨_, rfl⟩
      rw [← hk, ← hv] at htk hpk
      rw [← hk] at d0
      rw [← hv] at d1
      have HTK := Lib.hid htk
      have HPK := Lib.hid hpk
      clear hk hv htk hpk hcells
      obtain ⟨w2, hw2⟩ : ∃ w2, w2 = wr.alloc (.cells #[.string k, .string v, .bool false] 187) := ⟨_, rfl⟩
      have hb2 : Below wr.heap.size wr w2 := by rw [hw2]; exact (Below.refl _ _).alloc (Nat.le_refl _) _
      have hbx : w2.heap[wr.heap.size]? = some (.cells #[.string k, .string v, .bool false] 187 (0, 0)) := by rw [hw2]; exact (MapKept.heap_alloc wr _).1
      have HB2 := Lib.hid hb2
      have e0 := cell_of_block (off := 0) hbx (by show 0 < 3; decide)
      have e1 := cell_of_block (off := 1) hbx (by show 1 < 3; decide)
      have e2 := cell_of_block (off := 2) hbx (by show 2 < 3; decide)
      dsimp only [List.getElem_toArray, List.getElem_cons_zero, List.getElem_cons_succ] at e0 e1 e2
      clear hb2 hbx
      go_wp2_with fail
      rw [← hw2]
      clear hw2 d0 d1 d2
      refine (sync1_calls _ w2).mono ?_
      rintro r w3 ⟨rfl, rfl⟩
      go_wp2_with fail
      refine (recPut_calls kb _ _ k v (by have := HPK.out; unfold maxLen; omega) (by have := putsR_len (ps.take i) disk; rw [List.length_take] at this; have := HN.out; unfold maxLen; omega) w2 (HI.out.1.keep (HB2.out.block kb HI.out.1.lt))).mono ?_
      rintro r w4 ⟨rfl, hm4, ht4⟩
      have HI4 := Lib.hid (show MapF Tryz.prog 9 w4 kb (recF (putsR disk (ps.take (i + 1)))) (putsR disk (ps.take (i + 1))).length ∧ Turn (fun b => b = kb) w w4 from ⟨by
        rw [HTK.out, recF_put, putR_length]
        exact hm4, (HI.out.2.trans (Turn.of_below HB2.out)).trans ht4⟩)
      clear hm4 ht4 e0 e1 e2
      go_wp2
      exact ⟨⟨i + 1, by congr 1, by omega, HI4⟩, by simp [intOf]; omega⟩
    · have HE := Lib.hid (show ps.take i = ps from List.take_of_length_le (by rw [← HN.out]; omega))
      have hblk : wr.heap[sb]? = some (.cells #[.int .i64 (room : Int), .map (some mb), .map (some kb), .slice A n cap, .int .i64 (usedR now : Int), .bool false, .int .i64 (0 : Nat), .int .i64 (age : Int)] 106 (0, 0)) := (HI.out.2.block sb H1.out.lt hsk).trans H1.out.blk
      have f3 := cell_of_block (off := 3) hblk (by show 3 < 8; decide)
      have z3 := frozen_of_block (off := 3) hblk
      have HBL := Lib.hid hblk
      dsimp only [List.getElem_toArray, List.getElem_cons_zero, List.getElem_cons_succ] at f3
      clear hblk
      go_wp2
      go_end0
      refine ⟨rfl, ⟨⟨mb, kb, .slice none 0 0, ⟨block_setCell (off := 3) HBL.out (.slice none 0 0), ?_, ?_, World.ownsRow_nil _ _ _ _⟩, h2, h3, h4, h5, fun b hb => by cases hb⟩, r1, r2, r3, rfl, by simp, r6⟩, ?_, fun b hb => .inl hb, ?_⟩
      · have hsm : sb ≠ mb := by
          rintro rfl
          obtain ⟨es, cl, he⟩ := H1.out.now.entries
          have := H1.out.blk.symm.trans he
          injection this with this
          cases this
        exact H1.out.now.keep ((block_other hsm _).trans (HI.out.2.block mb H1.out.now.lt (fun e => h2 e.symm)))
      · have := HI.out.1
        rw [HE.out] at this
        exact this.keep (block_other hsk _)
      · exact (HI.out.2.mono (fun b hb => by rw [hb]; exact .inl h5)).setCell (p := ⟨sb, 3, none⟩) (.inl h3) _
      · exact fun b hb => Nat.lt_of_lt_of_le (hF b hb) (by have := HI.out.2.size; simp [World.setCell]; exact this)
set_option maxRecDepth 100000 in
set_option maxHeartbeats 4000000 in
theorem sync_calls {ps : Recs} (h : StoreAt w sb room now disk (wlog ps) age F) (hF : ∀ b, F b → b < w.heap.size) (hp : PutsOk ps) (hlen : disk.length + ps.length ≤ 100000000) :
    Calls Tryz.prog 24 #[.pointer (some ⟨sb, 0, none⟩)] w fun r w' => r = .returned (.int .i64 0) ∧ StoreAt w' sb room now (putsR disk ps) [] age F ∧ Goes F F w w' := by
  have HS := Lib.hid (settle_calls h hF hp hlen)
  obtain ⟨⟨mb, kb, lv, h1, _⟩, _⟩ := h
  have HK := Lib.hid (strikes_calls h1)
  have c5 := cell_of_block (off := 5) h1.blk (by show 5 < 8; decide)
  dsimp only [List.getElem_toArray, List.getElem_cons_zero, List.getElem_cons_succ] at c5
  clear h1 hF hp hlen
  go_enter Tryz.func24, Tryz.ntmps24
  go_wp2_with fail
  refine (HK.out).mono ?_
  rintro r w1 ⟨rfl, rfl⟩
  go_wp2_with fail
  refine (HS.out).mono ?_
  rintro r w2 ⟨rfl, h2, h3⟩
  have H2 := Lib.hid (And.intro h2 h3)
  clear h2 h3 c5
  go_wp2
  go_ret
  exact ⟨rfl, H2.out.1, H2.out.2⟩
end
end Go.Proofs.YtblkehdpenfhjaaGreatDoor
/-
  strings.Builder's writers with a frame that reaches above the builder; Store.Image.
-/
set_option linter.unusedVariables false
set_option linter.unusedSimpArgs false
namespace Go.Proofs.YtblkehdpenfhjaaGreatDoor
open Go.RowKit Go.Maps Go.ChangeMaps Go.MapKept Go.Sort Go.Shelf

/-- a builder that has been written, and what a writer keeps -/
def Bld (B b : Nat) (l : List UInt8) (w : World) : Prop := Lib.BuilderAtF 110 5 B b (.pointer (some ⟨b, 0, none⟩)) (Lib.byteCells l) w
structure Kept (B b : Nat) (w w' : World) : Prop where
  below : Below B w w'
  others : Lib.OthersKept 5 (some b) w w'
theorem Kept.refl (B b : Nat) (w : World) : Kept B b w w := ⟨Below.refl _ _, Lib.OthersKept.refl _ _ _⟩
theorem Kept.trans {B b : Nat} {w1 w2 w3 : World} (h : Kept B b w1 w2) (k : Kept B b w2 w3) : Kept B b w1 w3 := ⟨h.below.trans k.below, h.others.trans k.others⟩
theorem Bld.alloc {B b : Nat} {l : List UInt8} {w : World} (h : Bld B b l w) (o : Obj) : Bld B b l (w.alloc o) := Lib.BuilderAtF.alloc h o
theorem Bld.below {B b : Nat} {l : List UInt8} {w w' : World} (h : Bld B b l w) (hb : Below w.heap.size w w') : Bld B b l w' := by
  obtain ⟨h1, v, h2, ⟨h3, h4⟩, h5⟩ := h
  refine ⟨h1, v, (hb.block _ (block_lt h2)).trans h2, ⟨h3, ?_⟩, h5⟩
  rcases h4 with h4 | ⟨g, cap, cur, fz, q1, q2, q3, q4⟩
  · exact .inl h4
  · exact .inr ⟨g, cap, cur, fz, q1, q2, (hb.block _ (block_lt q3)).trans q3, q4⟩
theorem wS_calls {B b : Nat} {l : List UInt8} {w : World} (h : Bld B b l w) (s : ByteArray) (hl : l.length + s.size ≤ 140737488355328) (hBw : B ≤ w.heap.size) :
    Calls Tryz.prog 75 #[.pointer (some ⟨b, 0, none⟩), .string s] w fun e w' => e = .returned (.tuple #[.int .i64 s.size, .nilIface]) ∧ Bld B b (l ++ s.data.toList) w' ∧ Kept B b w w' :=
  (Any.Builder_WriteString_k laysWS extraJ B b _ s w (.inr h) (by rw [Lib.byteCells_length]; exact hl) hBw).mono fun e w' ⟨h1, h2, h3, h4⟩ => ⟨h1, by
    show Lib.BuilderAtF _ _ _ _ _ (Lib.byteCells (l ++ s.data.toList)) w'
    rw [Lib.byteCells_append]
    exact h2, h3, h4⟩
theorem wS0_calls {B b : Nat} {w : World} (h : w.heap[b]? = some (.cells #[.pointer none, .slice none 0 0] 110 (0, 0))) (hB : B ≤ b) (s : ByteArray) (hl : s.size ≤ 140737488355328) (hBw : B ≤ w.heap.size) :
    Calls Tryz.prog 75 #[.pointer (some ⟨b, 0, none⟩), .string s] w fun e w' => e = .returned (.tuple #[.int .i64 s.size, .nilIface]) ∧ Bld B b s.data.toList w' ∧ Kept B b w w' :=
  (Any.Builder_WriteString_k laysWS extraJ B b [] s w (.inl ⟨hB, _, h, ⟨rfl, .inl ⟨rfl, rfl⟩⟩, by simp [Value.ownBlock]⟩) (by simpa using hl) hBw).mono fun e w' ⟨h1, h2, h3, h4⟩ => ⟨h1, h2, h3, h4⟩
theorem wB_calls {B b : Nat} {l : List UInt8} {w : World} (h : Bld B b l w) (c : UInt8) (hl : l.length + 1 ≤ 140737488355328) (hBw : B ≤ w.heap.size) :
    Calls Tryz.prog 77 #[.pointer (some ⟨b, 0, none⟩), .int .u8 c.toNat] w fun e w' => e = .returned .nilIface ∧ Bld B b (l ++ [c]) w' ∧ Kept B b w w' :=
  (Any.Builder_WriteByte_k laysWB extraJ B b _ c.toNat w (.inr h) (by rw [Lib.byteCells_length]; exact hl) hBw).mono fun e w' ⟨h1, h2, h3, h4⟩ => ⟨h1, by
    show Lib.BuilderAtF _ _ _ _ _ (Lib.byteCells (l ++ [c])) w'
    rw [Lib.byteCells_append]
    exact h2, h3, h4⟩
theorem bstr_calls {B b : Nat} {l : List UInt8} {w : World} (h : Bld B b l w) (hBw : B ≤ w.heap.size) :
    Calls Tryz.prog 79 #[.pointer (some ⟨b, 0, none⟩)] w fun e w' => e = .returned (.string ⟨l.toArray⟩) ∧ Below B w w' :=
  (Any.Builder_String_any_k laysS extraJ B b l w (.inr h) hBw).mono fun e w' ⟨h1, h2, h3, h4⟩ => ⟨h1, h3⟩
set_option maxHeartbeats 4000000 in
set_option maxRecDepth 100000 in
theorem wW_calls {B b g n c : Nat} {l m : List UInt8} {w : World} (h : Bld B b l w) (hn : m.length = n) (h0 : 0 < n) (hl : l.length + n ≤ 140737488355328) (hBw : B ≤ w.heap.size)
    (hc : ∀ j u, (Lib.byteCells m)[j]? = some u → w.cell? ((⟨g, 0, none⟩ : Addr).add j) = some u) :
    Calls Tryz.prog 78 #[.pointer (some ⟨b, 0, none⟩), .slice (some ⟨g, 0, none⟩) n c] w fun e w' => e = .returned (.tuple #[.int .i64 n, .nilIface]) ∧ Bld B b (l ++ m) w' ∧ Kept B b w w' := by
  obtain ⟨i0, hi, hz0, hz1, hz2⟩ := info_parts extraJ.infoByte
  have HCK := Lib.hid (Any.Builder_copyCheck_used { laysJ with } extraJ.toX72 b w (Lib.BuilderAtF.cell0 h))
  obtain ⟨hB, v, hbk, hown, hne⟩ := h
  have c0 : w.cell? ⟨b, 0, none⟩ = some (.pointer (some ⟨b, 0, none⟩)) := by rw [Lib.cell_of_heap hbk]; rfl
  have c1 : w.cell? ⟨b, 1, none⟩ = some v := by rw [Lib.cell_of_heap hbk]; rfl
  have HN := Lib.hid hn
  have HC := Lib.hid hc
  have hbl : b < w.heap.size := block_lt hbk
  rw [Lib.byteCells_length] at hown
  clear hn hc
  go_enter Tryz.func78, Tryz.ntmps78
  go_wp2_with fail
  refine (HCK.out).mono ?_
  rintro e w1 ⟨rfl, rfl⟩
  go_wp2_with (at_builtin; refine wpList_append_ownF _ rfl _ _ 108 rfl B 5 i0 (.int .u8 0) 1 1 Tryz.underlying108 hi hz0 hz1 hz2 rfl (by decide) _ _ _ rfl hown ⟨g, 0, none⟩ n c (Lib.byteCells m) rfl (by rw [Lib.byteCells_length, HN.out]; simp) HC.out ?c2 ?c3 ?c4 hBw ?_)
  case c2 => intro u hu; obtain ⟨x, _, rfl⟩ := List.mem_map.1 hu; rfl
  case c3 => unfold maxLen; omega
  case c4 => omega
  intro v' w2 hown' hgrow _
  have hb2 : w2.heap[b]? = some (.cells #[.pointer (some ⟨b, 0, none⟩), v] 110 (0, 0)) := by
    rw [hgrow.block b hbl (fun e => hne e.symm)]
    exact hbk
  have d0 : w2.cell? ⟨b, 0, none⟩ = some (.pointer (some ⟨b, 0, none⟩)) := by rw [Lib.cell_of_heap hb2]; rfl
  have d1 : w2.cell? ⟨b, 1, none⟩ = some v := by rw [Lib.cell_of_heap hb2]; rfl
  have f1 : w2.frozen? ⟨b, 1, none⟩ = false := Lib.frozen_of_heap hb2 1
  obtain ⟨g2, cap2, rfl⟩ : ∃ g cap, v' = .slice (some ⟨g, 0, none⟩) (l.length + n) cap := by
    rcases hown'.2 with ⟨_, h0'⟩ | ⟨g, cap, cur, fz, hv, _⟩
    · omega
    · exact ⟨g, cap, hv⟩
  go_wp2
  go_ret2
  refine ⟨rfl, ?_, ?_, ((Lib.OthersKept.refl _ _ _).grown hgrow (Lib.ownsRowF_kind hown)).setCell ⟨b, 1, none⟩ rfl _⟩
  · show Lib.BuilderAtF _ _ _ _ _ (Lib.byteCells (l ++ m)) _
    rw [Lib.byteCells_append]
    exact Lib.BuilderAtF.put (T := 110) (e := 5) hB hb2 (bs' := Lib.byteCells l ++ Lib.byteCells m) (by simpa [Lib.byteCells_length, HN.out] using hown') extraJ.neB5
  · exact ((Below.refl _ _).grown hgrow hBw (fun k hk => (hown.lt k hk).1)).setCell (p := ⟨b, 1, none⟩) hB _
theorem recF_data {r : Recs} {k : List UInt8} (hk : (recF r (.string k)).isSome = true) : recF r (.string k) = some (.string (dataOf (recF r) k)) := by
  have e : k = (ByteArray.mk k.toArray).data.toList := by simp
  have h1 := recF_at r ⟨k.toArray⟩
  unfold litK at h1
  rw [← e] at h1
  unfold dataOf
  rw [h1] at hk ⊢
  cases hg : getR r ⟨k.toArray⟩ with
  | none => rw [hg] at hk; cases hk
  | some u => rfl
theorem be4_cells (n : Nat) : (Lib.byteCells (be4L n)).toArray = #[.int .u8 ((n : Int) / 16777216 % 256), .int .u8 ((n : Int) / 65536 % 256), .int .u8 ((n : Int) / 256 % 256), .int .u8 ((n : Int) % 256)] := by
  have h : ∀ m : Nat, ((UInt8.ofNat m).toNat : Int) = (m : Int) % 256 := fun m => by simp
  simp only [Lib.byteCells, be4L, List.map_cons, List.map_nil, h]
  rfl
theorem wrap8 (n : Nat) : IntKind.u8.wrap (n : Int) = ((UInt8.ofNat n).toNat : Int) := by
  rw [show (UInt8.ofNat n).toNat = n % 256 by simp]
  simp [IntKind.wrap, IntKind.signed, IntKind.bits]
section
variable {w : World} {sb room age : Nat} {now disk : Recs} {log : List Value} {F : Nat → Prop}
set_option maxRecDepth 100000 in
set_option maxHeartbeats 8000000 in
theorem image_calls (h : StoreAt w sb room now disk log age F) (hd : SmallD disk) (hlen : disk.length ≤ 100000000) :
    Calls Tryz.prog 23 #[.pointer (some ⟨sb, 0, none⟩)] w fun r w' => ∃ ss, KeysAre (recF disk) ss ∧ r = .returned (.string ⟨(imgL (recF disk) ss).toArray⟩) ∧ Below w.heap.size w w' := by
  obtain ⟨⟨mb, kb, lv, h1, _⟩, _⟩ := h
  obtain ⟨nd, hnd⟩ : ∃ n, n = disk.length := ⟨_, rfl⟩
  have hm := h1.disk
  rw [← hnd] at hm hlen
  have HM0 := Lib.hid hm
  have HSM := Lib.hid (fun (k : List UInt8) (hk : (recF disk (.string k)).isSome = true) => hd.rec hk)
  have HLK := Lib.hid (fun (k : List UInt8) (hk : (recF disk (.string k)).isSome = true) => recF_data hk)
  have hsb := h1.lt
  have HC := Lib.hid (show ∀ w', Below w.heap.size w w' → w'.cell? ⟨sb, 2, none⟩ = some (.map (some kb)) from fun w' hb => (hb.cell (p := ⟨sb, 2, none⟩) hsb).trans (cell_of_block (off := 2) h1.blk (by show 2 < 8; decide)))
  obtain ⟨g, hg⟩ : ∃ g, g = recF disk := ⟨_, rfl⟩
  have HM := Lib.hid (show MapF Tryz.prog 9 w kb g nd by rw [hg]; exact HM0.out)
  rw [← hg] at HSM HLK ⊢
  clear h1 hm hd hnd hsb hg HM0
  obtain ⟨w1, hw1⟩ : ∃ w1, w1 = w.alloc (.cells #[.pointer none, .slice none 0 0] 110) := ⟨_, rfl⟩
  have hb1 : Below w.heap.size w w1 := by rw [hw1]; exact (Below.refl _ _).alloc (Nat.le_refl _) _
  have hbx : w1.heap[w.heap.size]? = some (.cells #[.pointer none, .slice none 0 0] 110 (0, 0)) := by rw [hw1]; exact (MapKept.heap_alloc w _).1
  have HB1 := Lib.hid hb1
  have HW0 := Lib.hid (wS0_calls hbx (Nat.le_refl _) ⟨#[83]⟩ (by decide) hb1.size)
  go_enter Tryz.func23, Tryz.ntmps23
  go_wp2_with fail
  rw [← hw1]
  clear hw1 hb1 hbx
  refine (HW0.out).mono ?_
  rintro r w2 ⟨rfl, hB2, hk2⟩
  have HBD2 := Lib.hid hB2
  have HB2 := Lib.hid (HB1.out.trans hk2.below)
  have c2 := HC.out w2 HB2.out
  have HS := Lib.hid (sorted_calls (HM.out.keep (w' := w2) (HB2.out.block kb HM.out.lt)) (by omega))
  clear hB2 hk2 HW0
  go_wp2_with fail
  refine (HS.out).mono ?_
  rintro r w3 ⟨v, ss, rfl, hK, hl, hrow, hb3⟩
  obtain ⟨A, cap, rfl⟩ := own_slice hrow
  have HBD3 := Lib.hid (HBD2.out.below hb3)
  have HB3 := Lib.hid (HB2.out.trans (hb3.mono HB2.out.size))
  have HK := Lib.hid hK
  obtain ⟨n, hn⟩ : ∃ n, n = ss.length := ⟨_, rfl⟩
  have hnn : n ≤ 100000000 := by omega
  rw [← hn] at hrow ⊢
  have HN := Lib.hid hn
  have HCL := Lib.hid (show 0 < n → ∃ b o, A = some ⟨b, o, none⟩ ∧ ∀ w', Kept w.heap.size w.heap.size w3 w' → ∀ i (hi : i < ss.length), w'.cell? ⟨b, o + i, none⟩ = some (.string ⟨ss[i].toArray⟩) from fun h0 => by
    rcases hrow.2 with ⟨hv, hz⟩ | ⟨g, cap', cur, hv, q2, q3, q4⟩
    · omega
    · injection hv with e1 e2 e3
      refine ⟨g, 0, e1, fun w' ht i hi => ?_⟩
      have hne : g ≠ w.heap.size := by
        have := Lib.BuilderAtF.lt HBD2.out
        omega
      have hblk := ht.others g _ q3 (by simpa using hne) (by intro c fz e; injection e with e1 e2; cases e2)
      have := World.ownsRow.cells (g := g) hrow (by rw [e1]; rfl) i (encStr ss[i]) (by simp [hi])
      rw [Addr.add_lit, Nat.zero_add] at this
      rw [Nat.zero_add]
      have e4 : w'.cell? ⟨g, i, none⟩ = w3.cell? ⟨g, i, none⟩ := by simp only [World.cell?, hblk, q3]
      rw [e4]
      exact this)
  have HSI := Lib.hid (fun i (hi : i < ss.length) => HSM.out _ ((HK.out.2.2 _).1 (List.getElem_mem hi)))
  have HLI := Lib.hid (fun i (hi : i < ss.length) => HLK.out _ ((HK.out.2.2 _).1 (List.getElem_mem hi)))
  clear hrow hl hK hn hb3 c2 HS
  go_wp2_with fail
  go_loopw [15] (fun iv wr => ∃ (i : Nat), iv = .int .i64 (i : Int) ∧ i ≤ n ∧ Hid (Bld w.heap.size w.heap.size (imgL g (ss.take i)) wr ∧ Kept w.heap.size w.heap.size w3 wr)) (fun iv _ => n + 1 - (intOf iv).toNat)
  case atStart => exact ⟨0, rfl, by omega, Lib.hid ⟨HBD3.out, Kept.refl _ _ _⟩⟩
  case round =>
    obtain ⟨i, rfl, hin, HI⟩ := hrel
    by_cases hi : i < n
    · obtain ⟨b, o, rfl, hcells⟩ := HCL.out (by omega)
      have his : i < ss.length := by rw [← HN.out]; exact hi
      have d0 := hcells wr HI.out.2 i his
      have hsm := HSI.out i his
      have hlk := HLI.out i his
      have htk : imgL g (ss.take (i + 1)) = imgL g (ss.take i) ++ recL g ss[i] := by
        rw [List.take_succ_eq_append_getElem his]
        unfold imgL
        rw [List.flatMap_append, List.flatMap_cons, List.flatMap_nil, List.append_nil, List.cons_append]
      have hlen0 : (imgL g (ss.take i)).length ≤ 1 + 100000000 * 1048645 := by
        have h1 := flat_le (recL g) 1048645 (ss.take i) (fun s hs => by
          obtain ⟨j, hj, rfl⟩ := List.getElem_of_mem hs
          rw [List.getElem_take]
          exact (HSI.out j (by rw [List.length_take] at hj; omega)).2.2)
        have h2 : (ss.take i).length ≤ 100000000 := by rw [List.length_take]; omega
        have h3 : (ss.take i).length * 1048645 ≤ 100000000 * 1048645 := Nat.mul_le_mul_right _ h2
        simp only [imgL, List.length_cons]
        omega
      obtain ⟨k, hk⟩ : ∃ k, k = ss[i] := ⟨_, rfl⟩
      rw [← hk] at d0 hsm hlk htk
      obtain ⟨kv, hkv⟩ : ∃ kv : ByteArray, kv = ⟨k.toArray⟩ := ⟨_, rfl⟩
      rw [← hkv] at d0
      obtain ⟨dv, hdv⟩ : ∃ d, d = dataOf g k := ⟨_, rfl⟩
      rw [← hdv] at hsm hlk
      have hks : kv.size = k.length := by rw [hkv]; simp [ByteArray.size]
      have hkd : kv.data.toList = k := by rw [hkv]
      have c2 := HC.out wr (HB3.out.trans HI.out.2.below)
      have hlook := (HM.out.keep (w' := wr) ((HB3.out.trans HI.out.2.below).block kb HM.out.lt)).look1 keyedS Tryz.underlying103 (Tryz.zeroValue9 wr) (key := .string kv) (kl := .string k) (by rw [← hkd]; exact WideMaps.keyOf_string_mk Tryz.underlying9 (by unfold maxLen; omega))
      rw [hlk] at hlook
      dsimp only [Option.getD_some] at hlook
      have HSM1 := Lib.hid (show k.length ≤ 64 ∧ dv.size ≤ 1048576 from ⟨hsm.1, hsm.2.1⟩)
      have HKD := Lib.hid (And.intro hks (And.intro hkd hdv))
      have HTK := Lib.hid htk
      have HL0 := Lib.hid hlen0
      obtain ⟨c1, hc1⟩ : ∃ c, c = UInt8.ofNat k.length := ⟨_, rfl⟩
      have hw1 : (kv.size : Int) % 256 = (c1.toNat : Int) := by rw [hc1, hks]; simp
      have HC1 := Lib.hid hc1
      clear hsm hlk htk hk hkv hdv hks hkd hlen0 hcells hc1
      go_wp2_with fail
      refine (wB_calls HI.out.1 c1 (by have := HL0.out; omega) (Nat.le_trans HB3.out.size HI.out.2.below.size)).mono ?_
      rintro r w4 ⟨rfl, hB4, hk4⟩
      have HB4 := Lib.hid hB4
      have HK4 := Lib.hid (HI.out.2.trans hk4)
      clear hB4 hk4 d0 c2 hlook hw1
      go_wp2_with fail
      refine (wS_calls HB4.out kv (by have := HL0.out; have := HSM1.out; have := HKD.out.1; simp only [List.length_append, List.length_cons, List.length_nil]; omega) (Nat.le_trans HB3.out.size HK4.out.below.size)).mono ?_
      rintro r w5 ⟨rfl, hB5, hk5⟩
      have HB5 := Lib.hid hB5
      have HK5 := Lib.hid (HK4.out.trans hk5)
      clear hB5 hk5
      go_wp2_with fail
      obtain ⟨w6, hw6⟩ : ∃ w6, w6 = w5.alloc (.cells #[.int .u8 ((dv.size : Int) / 16777216 % 256), .int .u8 ((dv.size : Int) / 65536 % 256), .int .u8 ((dv.size : Int) / 256 % 256), .int .u8 ((dv.size : Int) % 256)] 5) := ⟨_, rfl⟩
      have hb6 : w6.heap[w5.heap.size]? = some (.cells (Lib.byteCells (be4L dv.size)).toArray 5 (0, 0)) := by
        rw [hw6, be4_cells]
        exact (MapKept.heap_alloc w5 _).1
      have hB6 : Bld w.heap.size w.heap.size (imgL g (ss.take i) ++ [c1] ++ kv.data.toList) w6 := by rw [hw6]; exact HB5.out.alloc _
      have hk6 : Kept w.heap.size w.heap.size w5 w6 := by rw [hw6]; exact ⟨(Below.refl _ _).alloc (Nat.le_trans HB3.out.size HK5.out.below.size) _, (Lib.OthersKept.refl _ _ _).alloc _⟩
      have HK6 := Lib.hid (HK5.out.trans hk6)
      have HW6 := Lib.hid (wW_calls (g := w5.heap.size) (n := 4) (c := 4) (m := be4L dv.size) hB6 rfl (by decide) (by have := HL0.out; have := HSM1.out; have := HKD.out.1; have h9 : kv.data.toList.length = kv.size := Array.length_toList; simp only [List.length_append, List.length_cons, List.length_nil, h9]; omega) (Nat.le_trans HB3.out.size HK6.out.below.size) (World.news_of_block hb6))
      rw [← hw6]
      clear hw6 hb6 hB6 hk6
      refine (HW6.out).mono ?_
      rintro r w7 ⟨rfl, hB7, hk7⟩
      have HB7 := Lib.hid hB7
      have HK7 := Lib.hid (HK6.out.trans hk7)
      clear hB7 hk7 HW6
      go_wp2_with fail
      refine (wS_calls HB7.out dv (by have := HL0.out; have := HSM1.out; have := HKD.out.1; have h9 : kv.data.toList.length = kv.size := Array.length_toList; have h8 : (be4L dv.size).length = 4 := rfl; simp only [List.length_append, List.length_cons, List.length_nil, h9, h8]; omega) (Nat.le_trans HB3.out.size HK7.out.below.size)).mono ?_
      rintro r w8 ⟨rfl, hB8, hk8⟩
      have HI8 := Lib.hid (show Bld w.heap.size w.heap.size (imgL g (ss.take (i + 1))) w8 ∧ Kept w.heap.size w.heap.size w3 w8 from ⟨by
        rw [HTK.out]
        unfold recL
        rw [← HKD.out.2.2, ← HC1.out, ← HKD.out.2.1]
        simpa only [List.append_assoc] using hB8, HK7.out.trans hk8⟩)
      clear hB8 hk8
      go_wp2
      exact ⟨⟨i + 1, by congr 1, by omega, HI8⟩, by simp [intOf]; omega⟩
    · have HE := Lib.hid (show ss.take i = ss from List.take_of_length_le (by rw [← HN.out]; omega))
      have HBF := Lib.hid (show Bld w.heap.size w.heap.size (imgL g ss) wr from by have := HI.out.1; rw [HE.out] at this; exact this)
      have HWF := Lib.hid (HB3.out.trans HI.out.2.below)
      go_wp2_with fail
      refine (bstr_calls HBF.out HWF.out.size).mono ?_
      rintro r w4 ⟨rfl, hb4⟩
      have HB4 := Lib.hid (HWF.out.trans hb4)
      clear hb4
      go_wp2
      go_ret
      exact ⟨ss, HK.out, rfl, HB4.out⟩
end
end Go.Proofs.YtblkehdpenfhjaaGreatDoor
/-
  An engine that is asked over a store that has a disk: every question, every answer; a Sync.
-/
set_option linter.unusedVariables false
set_option linter.unusedSimpArgs false
namespace Go.Proofs.YtblkehdpenfhjaaGreatDoor
open Go.RowKit Go.Maps Go.ChangeMaps Go.MapKept

section
variable {w w' : World} {a : EA} {D : ED} {X Y : Nat → Prop} {lv : Value} {rv : Nat → Option Value} {sf : Lit → Option Value} {ns : Nat}
set_option maxRecDepth 100000 in
set_option maxHeartbeats 4000000 in
theorem engLeaf_no (h : EngIn w a D X lv rv sf ns) {room : Nat} {now disk : Recs} {log : List Value} {F : Nat → Prop} (hS : StoreAt w a.sb room now disk log D.age F) (i : Int) (hi : i < 0 ∨ (D.L.length : Int) ≤ i) :
    Calls Tryz.prog 22 #[.pointer (some ⟨a.eb, 0, none⟩), .int .i64 i] w fun r w' => r = .returned (.tuple #[.string ⟨#[]⟩, .int .i64 81]) ∧ ∃ n, w' = w.drewN n := by
  have HO := Lib.hid (over_calls h hS)
  have HC := Lib.hid h.c10
  obtain ⟨A, cap, e, hcap, hcells⟩ := h.list
  rw [List.length_map] at e hcap
  obtain ⟨n, hn⟩ : ∃ x, x = D.L.length := ⟨_, rfl⟩
  rw [← hn] at e hcap hi
  subst e
  obtain ⟨eb, sb, rb, db, ub, pb⟩ := a
  dsimp only at HO HC ⊢
  clear h hn hcap hcells hS
  by_cases h0 : i < 0
  · clear hi
    go_enter Tryz.func22, Tryz.ntmps22
    go_wp2_with fail
    refine (HO.out).mono ?_
    rintro r w1 ⟨rfl, m, rfl⟩
    have c10 := HC.out
    go_wp2
    go_ret2
    exact ⟨rfl, _, rfl⟩
  · have k1 : decide ((n : Int) ≤ i) = true := decide_eq_true (hi.resolve_left h0)
    clear hi
    go_enter Tryz.func22, Tryz.ntmps22
    go_wp2_with fail
    refine (HO.out).mono ?_
    rintro r w1 ⟨rfl, m, rfl⟩
    have c10 := HC.out
    go_wp2
    go_ret2
    exact ⟨rfl, _, rfl⟩
end
section
variable {w w' : World}
/-- an engine that is asked, its store with a disk -/
structure AskD (w0 w : World) (a : EA) (W B : Nat) (L : List ByteArray) (roots : Nat) (D : ED) (now disk : Recs) (log : List Value) (F : Nat → Prop) : Prop where
  sys : Sys w a D 536870912 now disk log F
  W : D.W = W
  B : D.B = B
  L : D.L = L
  nodes : D.nodes ≤ cnt D + 62 * roots
  far : ∀ b, a.own b ∨ F b → w0.heap.size ≤ b
  below : Below w0.heap.size w0 w
variable {w0 : World} {a : EA} {W B roots k : Nat} {L : List ByteArray} {D D' : ED} {now disk : Recs} {log : List Value} {F : Nat → Prop}
theorem Sys.synced {room : Nat} {F' : Nat → Prop} {now' disk' : Recs} {log' : List Value} (h : Sys w a D room now disk log F) (hs : StoreAt w' a.sb room now' disk' log' D.age F') (hg : Goes F F' w w') : Sys w' a D room now' disk' log' F' :=
  ⟨(((h.eng.mono (Y := fun b => (¬ a.own b ∧ ¬ F b) ∧ b < w.heap.size) (fun b hb hX => ⟨hX, hb⟩) (fun b hb => hb.1.1)).keep hg.turn.size fun b hb ho => hg.turn.block b hb (fun hF => ho.elim (h.apart b hF) (fun hX => hX.1.2 hF))).mono (fun b hb hX => ⟨hX.1.1, fun hF' => (hg.own b hF').elim hX.1.2 (fun hn => by have := hX.2; omega)⟩) (fun b hb => hb.1)), hs, hg.low, fun b hb ho => (hg.own b hb).elim (fun hF => h.apart b hF ho) (fun hn => by have := h.eng.low ho; omega), h.good,
    h.glob.turn hg.turn h.gf, fun b hb hF => (hg.own b hF).elim (h.gf b hb) (fun hn => h.glob.new hn hb)⟩
theorem Asks.askD (h : Asks w0 w a W B L roots D now log F) : AskD w0 w a W B L roots D now [] log F := ⟨h.sys, h.W, h.B, h.L, h.nodes, h.far, h.below⟩
theorem AskD.asked (h : AskD w0 w a W B L roots D now disk log F) (hq : Asked w w' a D D' (fun b => ¬ a.own b ∧ ¬ F b) k) {roots' : Nat} (hk : k + 62 * roots ≤ 62 * roots') : AskD w0 w' a W B L roots' D' now disk log F :=
  ⟨h.sys.asked hq, hq.like.W.trans h.W, hq.like.B.trans h.B, hq.like.L.trans h.L, by have := hq.cnt; have := h.nodes; omega, h.far,
    (Turn.trans' (Turn.of_below h.below) hq.turn fun b hb => .inr (h.far b (.inl hb))).below (fun k hk => hk) (Nat.le_refl _)⟩
theorem AskD.keep (h : AskD w0 w a W B L roots D now disk log F) (hb : Below w.heap.size w w') : AskD w0 w' a W B L roots D now disk log F :=
  ⟨h.sys.below hb, h.W, h.B, h.L, h.nodes, h.far, h.below.trans (hb.mono h.below.size)⟩
theorem AskD.more (h : AskD w0 w a W B L roots D now disk log F) {r : Nat} (hr : roots ≤ r) : AskD w0 w a W B L r D now disk log F :=
  ⟨h.sys, h.W, h.B, h.L, by have := h.nodes; omega, h.far, h.below⟩
theorem AskD.room (h : AskD w0 w a W B L roots D now disk log F) (hL : L.length ≤ 1800) (hr : roots ≤ 140737488351240) : D.nodes + D.most + 62 ≤ 1152921504606846976 + cnt D := by
  have h1 := h.nodes
  have h2 := cnt_le D
  unfold ED.most at h2 ⊢
  rw [h.L, h.B] at h2 ⊢
  have h3 : L.length / 2 ^ B ≤ L.length := Nat.div_le_self _ _
  omega
theorem AskD.node (h : AskD w0 w a W B L roots D now disk log F) (hL : L.length ≤ 1800) (hr : roots ≤ 140737488351240) (x y : Int) :
    Calls Tryz.prog 16 #[.pointer (some ⟨a.eb, 0, none⟩), addrV x y] w fun r w' => r = .returned (.tuple #[.string (nodeA W L x y).1, .int .i64 (nodeA W L x y).2]) ∧ ∃ D', AskD w0 w' a W B L roots D' now disk log F ∧ Turn a.own w w' := by
  have := engNode_calls h.sys.eng h.sys.sto h.sys.glob h.sys.good h.sys.new (by have := h.room hL hr; omega) x y
  rw [h.W, h.L] at this
  exact this.mono fun r w' ⟨h1, D', h2, h3, h4⟩ => ⟨h1, D', h.asked h2 (by omega), h2.turn⟩
/-- what Root answers -/
noncomputable def rootA (W : Nat) (L : List ByteArray) (n : Int) : ByteArray × Int := if 0 ≤ n ∧ n ≤ L.length then (rootF W L n.toNat, 0) else (⟨#[]⟩, 80)
theorem AskD.root (h : AskD w0 w a W B L roots D now disk log F) (hL : L.length ≤ 1800) (hr : roots ≤ 140737488351240) (n : Int) :
    Calls Tryz.prog 18 #[.pointer (some ⟨a.eb, 0, none⟩), .int .i64 n] w fun r w' => r = .returned (.tuple #[.string (rootA W L n).1, .int .i64 (rootA W L n).2]) ∧ ∃ D', AskD w0 w' a W B L (roots + 1) D' now disk log F ∧ Turn a.own w w' := by
  unfold rootA
  by_cases hn : 0 ≤ n ∧ n ≤ L.length
  · rw [if_pos hn]
    obtain ⟨m, rfl⟩ := Int.eq_ofNat_of_zero_le hn.1
    have := engRoot_yes h.sys.eng h.sys.sto h.sys.glob h.sys.good h.sys.new (h.room hL hr) m (by rw [h.L]; omega)
    rw [h.W, h.L] at this
    exact this.mono fun r w' ⟨h1, D', k, hk, h2⟩ => ⟨h1, D', h.asked h2 (by omega), h2.turn⟩
  · rw [if_neg hn]
    have := engRoot_no h.sys.eng h.sys.sto n (by rw [h.L]; omega)
    exact this.mono fun r w' ⟨h1, m, h2⟩ => ⟨h1, D, (h.keep (by rw [h2]; exact below_drewN (Below.refl _ _) m)).more (by omega), by rw [h2]; exact Turn.of_below (below_drewN (Below.refl _ _) m)⟩
/-- what Leaf answers -/
noncomputable def leafA (L : List ByteArray) (n : Int) : ByteArray × Int := if 0 ≤ n ∧ n < L.length then (L.getD n.toNat ⟨#[]⟩, 0) else (⟨#[]⟩, 81)
theorem AskD.leaf (h : AskD w0 w a W B L roots D now disk log F) (n : Int) :
    Calls Tryz.prog 22 #[.pointer (some ⟨a.eb, 0, none⟩), .int .i64 n] w fun r w' => r = .returned (.tuple #[.string (leafA L n).1, .int .i64 (leafA L n).2]) ∧ ∃ m, w' = w.drewN m := by
  obtain ⟨lv, rv, sf, ns, hE⟩ := h.sys.eng
  unfold leafA
  by_cases hn : 0 ≤ n ∧ n < L.length
  · rw [if_pos hn]
    obtain ⟨m, rfl⟩ := Int.eq_ofNat_of_zero_le hn.1
    have := engLeaf_calls hE h.sys.sto m (by rw [h.L]; omega)
    refine this.mono fun r w' ⟨h1, h2⟩ => ⟨?_, h2⟩
    rw [h1]
    have hm : m < L.length := by omega
    simp [h.L, List.getD_eq_getElem?_getD, hm]
  · rw [if_neg hn]
    exact engLeaf_no hE h.sys.sto n (by rw [h.L]; omega)
theorem AskD.counts (h : AskD w0 w a W B L roots D now disk log F) :
    Calls Tryz.prog 14 #[.pointer (some ⟨a.eb, 0, none⟩)] w fun r w' => r = .returned (countsV D.nodes) ∧ Below w.heap.size w w' := engCounts_calls h.sys.eng
theorem AskD.size (h : AskD w0 w a W B L roots D now disk log F) :
    Calls Tryz.prog 15 #[.pointer (some ⟨a.eb, 0, none⟩)] w fun r w' => r = .returned (.int .i64 (L.length : Int)) ∧ w = w' := by
  have := engSize_calls h.sys.eng
  rw [h.L] at this
  exact this
theorem AskD.used (h : AskD w0 w a W B L roots D now disk log F) :
    Calls Tryz.prog 20 #[.pointer (some ⟨a.sb, 0, none⟩)] w fun r w' => r = .returned (.int .i64 (usedR now)) ∧ w = w' := storeUsed_calls h.sys.sto
theorem AskD.pending (h : AskD w0 w a W B L roots D now disk log F) :
    Calls Tryz.prog 21 #[.pointer (some ⟨a.sb, 0, none⟩)] w fun r w' => r = .returned (.int .i64 (log.length / 3 : Nat)) ∧ w = w' := pending_calls h.sys.sto
theorem AskD.image (h : AskD w0 w a W B L roots D now disk log F) (hd : SmallD disk) (hl : disk.length ≤ 100000000) {ss : List (List UInt8)} (hk : KeysAre (recF disk) ss) :
    Calls Tryz.prog 23 #[.pointer (some ⟨a.sb, 0, none⟩)] w fun r w' => r = .returned (.string ⟨(imgL (recF disk) ss).toArray⟩) ∧ Below w.heap.size w w' :=
  (image_calls h.sys.sto hd hl).mono fun r w' ⟨tt, h1, h2, h3⟩ => ⟨by rw [h2, h1.one hk], h3⟩
theorem AskD.sync {ps : Recs} (h : AskD w0 w a W B L roots D now disk (wlog ps) F) (hp : PutsOk ps) (hlen : disk.length + ps.length ≤ 100000000) :
    Calls Tryz.prog 24 #[.pointer (some ⟨a.sb, 0, none⟩)] w fun r w' => r = .returned (.int .i64 0) ∧ AskD w0 w' a W B L roots D now (putsR disk ps) [] F :=
  (sync_calls h.sys.sto h.sys.low hp hlen).mono fun r w' ⟨h1, h2, h3⟩ => ⟨h1, h.sys.synced h2 h3, h.W, h.B, h.L, h.nodes, h.far,
    (Turn.trans' (Turn.of_below h.below) h3.turn fun b hb => .inr (h.far b (.inr hb))).below (fun k hk => hk) (Nat.le_refl _)⟩
end
end Go.Proofs.YtblkehdpenfhjaaGreatDoor
/-
  Plain: the standard's root of a list (layer 6) is the root above the cover's peaks; no program in sight.
-/
set_option linter.unusedVariables false
namespace Go.Proofs.YtblkehdpenfhjaaGreatDoor

/-- the greatest power of two below n, doubling from k -/
def splitN : Nat → Nat → Nat → Nat
  | 0, k, _ => k
  | f + 1, k, n => if k < n - k then splitN f (k * 2) n else k
theorem splitN_is (n : Nat) : ∀ f j, 2 ^ j < n → n ≤ 2 ^ (j + f) → 1 ≤ f → ∃ i, splitN f (2 ^ j) n = 2 ^ i ∧ 2 ^ i < n ∧ n ≤ 2 ^ (i + 1)
  | 0, j, _, _, h => by omega
  | f + 1, j, h1, h2, _ => by
    unfold splitN
    by_cases h : 2 ^ j < n - 2 ^ j
    · rw [if_pos h, ← Nat.pow_succ]
      have h3 : 2 ^ (j + 1) < n := by rw [Nat.pow_succ]; omega
      have hf : 1 ≤ f := by
        rcases Nat.eq_zero_or_pos f with rfl | hf
        · exact absurd h2 (by simpa using h3)
        · exact hf
      exact splitN_is n f (j + 1) h3 (by rw [show j + 1 + f = j + (f + 1) by omega]; exact h2) hf
    · rw [if_neg h]
      exact ⟨j, rfl, h1, by rw [Nat.pow_succ]; omega⟩
/-- the greatest power of two below n -/
def splitF (n : Nat) : Nat := splitN 62 1 n
theorem splitF_is (n : Nat) (h1 : 2 ≤ n) (h2 : n ≤ 4611686018427387904) : ∃ i, splitF n = 2 ^ i ∧ 2 ^ i < n ∧ n ≤ 2 ^ (i + 1) :=
  splitN_is n 62 0 (by show 1 < n; omega) (by show n ≤ 4611686018427387904; exact h2) (by omega)
theorem splitF_lt (n : Nat) (h1 : 2 ≤ n) (h2 : n ≤ 4611686018427387904) : 1 ≤ splitF n ∧ splitF n < n := by
  obtain ⟨i, h3, h4, _⟩ := splitF_is n h1 h2
  rw [h3]
  exact ⟨Nat.one_le_two_pow, h4⟩
theorem split_of {n i : Nat} (h1 : 2 ^ i < n) (h2 : n ≤ 2 ^ (i + 1)) (h3 : n ≤ 4611686018427387904) : splitF n = 2 ^ i := by
  have hn : 2 ≤ n := by have := Nat.one_le_two_pow (n := i); omega
  obtain ⟨j, e, g1, g2⟩ := splitF_is n hn h3
  rw [e]
  have a1 : j < i + 1 := (Nat.pow_lt_pow_iff_right (by omega : 1 < 2)).1 (Nat.lt_of_lt_of_le g1 h2)
  have a2 : i < j + 1 := (Nat.pow_lt_pow_iff_right (by omega : 1 < 2)).1 (Nat.lt_of_lt_of_le h1 g2)
  rw [show j = i by omega]
/-- the standard's root of the leaves from p on, r of them -/
def mthF (W : Int) (L : List ByteArray) : Nat → Nat → Nat → ByteArray
  | 0, _, _ => mk (hashF W [])
  | f + 1, p, r => if r = 0 then mk (hashF W []) else if r = 1 then leafH W (L.getD p ⟨#[]⟩) else nodeH W (mthF W L f p (splitF r)) (mthF W L f (p + splitF r) (r - splitF r))
theorem mthF_more (W : Int) (L : List ByteArray) : ∀ f g p r, r ≤ 4611686018427387904 → r ≤ f → r ≤ g → mthF W L (f + 1) p r = mthF W L (g + 1) p r
  | 0, g, p, r, _, h1, _ => by
    unfold mthF
    rw [if_pos (by omega), if_pos (by omega)]
  | f + 1, 0, p, r, _, _, h2 => by
    unfold mthF
    rw [if_pos (by omega), if_pos (by omega)]
  | f + 1, g + 1, p, r, h0, h1, h2 => by
    unfold mthF
    by_cases e0 : r = 0
    · rw [if_pos e0, if_pos e0]
    · rw [if_neg e0, if_neg e0]
      by_cases e1 : r = 1
      · rw [if_pos e1, if_pos e1]
      · rw [if_neg e1, if_neg e1]
        have hs := splitF_lt r (by omega) h0
        rw [mthF_more W L f g p (splitF r) (by omega) (by omega) (by omega), mthF_more W L f g (p + splitF r) (r - splitF r) (by omega) (by omega) (by omega)]
def mthR (W : Int) (L : List ByteArray) (p r : Nat) : ByteArray := mthF W L (r + 1) p r
theorem mthF_size (W : Int) (L : List ByteArray) : ∀ f p r, (mthF W L f p r).size ≤ 32
  | 0, _, _ => by unfold mthF; rw [mk_size]; exact hashF_len _ _
  | f + 1, p, r => by
    unfold mthF
    by_cases e0 : r = 0
    · rw [if_pos e0, mk_size]; exact hashF_len _ _
    · rw [if_neg e0]
      by_cases e1 : r = 1
      · rw [if_pos e1]; exact leafH_size _ _
      · rw [if_neg e1]; exact nodeH_size _ _ _
theorem mthR_size (W : Int) (L : List ByteArray) (p r : Nat) : (mthR W L p r).size ≤ 32 := mthF_size _ _ _ _ _
theorem mthR_zero (W : Int) (L : List ByteArray) (p : Nat) : mthR W L p 0 = mk (hashF W []) := rfl
theorem mthR_one (W : Int) (L : List ByteArray) (p : Nat) : mthR W L p 1 = leafH W (L.getD p ⟨#[]⟩) := rfl
theorem mthR_more (W : Int) (L : List ByteArray) (p r : Nat) (h1 : 2 ≤ r) (h2 : r ≤ 4611686018427387904) : mthR W L p r = nodeH W (mthR W L p (splitF r)) (mthR W L (p + splitF r) (r - splitF r)) := by
  have hs := splitF_lt r h1 h2
  obtain ⟨f, rfl⟩ : ∃ f, r = f + 1 := ⟨r - 1, by omega⟩
  unfold mthR
  rw [mthF, if_neg (by omega), if_neg (by omega), mthF_more W L f (splitF (f + 1)) p (splitF (f + 1)) (by omega) (by omega) (Nat.le_refl _), mthF_more W L f (f + 1 - splitF (f + 1)) (p + splitF (f + 1)) _ (by omega) (by omega) (Nat.le_refl _)]
/-- of a whole subtree it is the node -/
theorem mthR_whole (W : Int) (L : List ByteArray) : ∀ k q, 2 ^ k ≤ 4611686018427387904 → mthR W L (q * 2 ^ k) (2 ^ k) = nodeF W L k q
  | 0, q, _ => by
    show mthR W L (q * 1) 1 = _
    rw [Nat.mul_one, mthR_one]
    rfl
  | k + 1, q, h => by
    have h1 : 2 ^ (k + 1) = 2 ^ k + 2 ^ k := by rw [Nat.pow_succ]; omega
    have h2 := Nat.one_le_two_pow (n := k)
    rw [mthR_more W L _ _ (by omega) h, split_of (i := k) (by omega) (Nat.le_refl _) h]
    have e1 : q * 2 ^ (k + 1) = (2 * q) * 2 ^ k := by rw [Nat.pow_succ, Nat.mul_comm 2 q, Nat.mul_assoc, Nat.mul_comm 2]
    have e2 : (2 * q) * 2 ^ k + 2 ^ k = (2 * q + 1) * 2 ^ k := by rw [Nat.add_mul, Nat.one_mul]
    have e3 : 2 ^ (k + 1) - 2 ^ k = 2 ^ k := by omega
    rw [e1, e2, e3, mthR_whole W L k (2 * q) (by omega), mthR_whole W L k (2 * q + 1) (by omega)]
    rfl
theorem covZ_nil : ∀ k p, cov k p 0 = []
  | 0, _ => rfl
  | k + 1, p => by
    unfold cov
    rw [if_neg (by have := Nat.one_le_two_pow (n := k); omega)]
    exact covZ_nil k p
theorem covS_some : ∀ k p r, 0 < r → r < 2 ^ k → cov k p r ≠ []
  | 0, _, r, h1, h2 => by simp at h2; omega
  | k + 1, p, r, h1, h2 => by
    unfold cov
    by_cases h : 2 ^ k ≤ r
    · rw [if_pos h]; simp
    · rw [if_neg h]; exact covS_some k p r h1 (by omega)
theorem mthR_cov (W : Int) (L : List ByteArray) : ∀ k p r, k ≤ 62 → 2 ^ k ∣ p → 0 < r → r < 2 ^ k → foldF W ((cov k p r).map fun a => nodeF W L a.1 a.2) = mthR W L p r
  | 0, _, r, _, _, h1, h2 => by simp at h2; omega
  | k + 1, p, r, hk, hp, h1, h2 => by
    have hk62 : 2 ^ (k + 1) ≤ 4611686018427387904 := Nat.le_trans (Nat.pow_le_pow_right (by omega) hk) (by decide)
    have hd : 2 ^ k ∣ p := Nat.dvd_trans (Nat.pow_dvd_pow 2 (by omega)) hp
    have hpk := Nat.pow_succ 2 k
    unfold cov
    by_cases h : 2 ^ k ≤ r
    · rw [if_pos h]
      obtain ⟨q, rfl⟩ := hd
      have hq : 2 ^ k * q / 2 ^ k = q := Nat.mul_div_cancel_left _ (Nat.two_pow_pos k)
      have hw := mthR_whole W L k q (by omega)
      rw [Nat.mul_comm q] at hw
      rw [hq]
      by_cases e : r = 2 ^ k
      · subst e
        rw [Nat.sub_self, covZ_nil, hw]
        rfl
      · have hne : ((cov k (2 ^ k * q + 2 ^ k) (r - 2 ^ k)).map fun a => nodeF W L a.1 a.2) ≠ [] := by
          have := covS_some k (2 ^ k * q + 2 ^ k) (r - 2 ^ k) (by omega) (by omega)
          simpa using this
        rw [List.map_cons, foldF_cons _ _ _ hne, mthR_cov W L k _ _ (by omega) ((Nat.dvd_add_iff_right ⟨q, rfl⟩).1 (Nat.dvd_refl _)) (by omega) (by omega), mthR_more W L _ r (by omega) (by omega), split_of (i := k) (by omega) (by omega) (by omega), hw]
    · rw [if_neg h]
      exact mthR_cov W L k p r (by omega) hd h1 (by omega)
theorem rootF_mth (W : Int) (L : List ByteArray) (n : Nat) (hn : n < 4611686018427387904) : rootF W L n = mthR W L 0 n := by
  unfold rootF cover
  rcases Nat.eq_zero_or_pos n with rfl | h0
  · rw [covZ_nil]; rfl
  · have h : cov 63 0 n = cov 62 0 n := by
      rw [cov, if_neg (by omega)]
    rw [h]
    exact mthR_cov W L 62 0 n (by omega) (Nat.dvd_zero _) h0 (by simpa using hn)
theorem mthF_congr (W : Int) (L M : List ByteArray) (a b : Nat) : ∀ f p r, r ≤ 4611686018427387904 → (∀ i, i < r → L.getD (a + p + i) ⟨#[]⟩ = M.getD (b + p + i) ⟨#[]⟩) → mthF W L f (a + p) r = mthF W M f (b + p) r
  | 0, _, _, _, _ => rfl
  | f + 1, p, r, h0, h => by
    unfold mthF
    by_cases e0 : r = 0
    · rw [if_pos e0, if_pos e0]
    · rw [if_neg e0, if_neg e0]
      by_cases e1 : r = 1
      · rw [if_pos e1, if_pos e1]
        have := h 0 (by omega)
        rw [Nat.add_zero, Nat.add_zero] at this
        rw [this]
      · rw [if_neg e1, if_neg e1]
        have hs := splitF_lt r (by omega) h0
        rw [mthF_congr W L M a b f p (splitF r) (by omega) (fun i hi => h i (by omega)), Nat.add_assoc, Nat.add_assoc, mthF_congr W L M a b f (p + splitF r) (r - splitF r) (by omega) (fun i hi => by
          have := h (splitF r + i) (by omega)
          rw [show a + p + (splitF r + i) = a + (p + splitF r) + i by omega, show b + p + (splitF r + i) = b + (p + splitF r) + i by omega] at this
          exact this)]
/-- of a part of the list: of the part alone -/
theorem mthR_seg (W : Int) (L : List ByteArray) (o n p r : Nat) (h0 : r ≤ 4611686018427387904) (h : p + r ≤ n) : mthR W (seg L o n) p r = mthR W L (o + p) r := by
  have := mthF_congr W (seg L o n) L 0 o (r + 1) p r h0 (fun i hi => by
    rw [seg_getD _ _ _ _ (by omega)]
    congr 1
    omega)
  rw [Nat.zero_add] at this
  exact this
end Go.Proofs.YtblkehdpenfhjaaGreatDoor
/-
  Package mth: split, halves, Root, Node, walked.
-/
set_option linter.unusedVariables false
set_option linter.unusedSimpArgs false
namespace Go.Proofs.YtblkehdpenfhjaaGreatDoor
open Go.RowKit Go.Maps Go.ChangeMaps Go.MapKept

set_option maxHeartbeats 4000000 in
set_option maxRecDepth 100000 in
theorem split_calls (n : Nat) (h1 : 2 ≤ n) (h2 : n ≤ 4611686018427387904) (w : World) :
    Calls Tryz.prog 218 #[.int .i64 n] w fun r w' => r = .returned (.int .i64 (splitF n : Nat)) ∧ w = w' := by
  have HS := Lib.hid (fun i (g1 : 2 ^ i < n) (g2 : n ≤ 2 ^ (i + 1)) => split_of g1 g2 h2)
  obtain ⟨s, hs⟩ : ∃ s, s = splitF n := ⟨_, rfl⟩
  rw [← hs] at HS ⊢
  clear hs
  go_enter Tryz.func218, Tryz.ntmps218
  go_wp2_with fail
  go_loopw [3] (fun kv wr => ∃ (k : Nat), kv = .int .i64 (k : Int) ∧ 1 ≤ k ∧ k < n ∧ Hid (∃ j, k = 2 ^ j) ∧ w = wr) (fun kv _ => n - (intOf kv).toNat)
  case atStart => exact ⟨1, rfl, by omega, by omega, Lib.hid ⟨0, rfl⟩, rfl⟩
  case round =>
    obtain ⟨k, rfl, hk1, hkn, HJ, rfl⟩ := hrel
    by_cases hc : k < n - k
    · have k1 : decide ((k : Int) < (n : Int) - (k : Int)) = true := decide_eq_true (by omega)
      have k2 : (k : Int) < (n : Int) - (k : Int) := by omega
      have HM := Lib.hid (show ∃ j, k * 2 = 2 ^ j from by obtain ⟨j, e⟩ := HJ.out; exact ⟨j + 1, by rw [e, Nat.pow_succ]⟩)
      go_wp2
      exact ⟨⟨k * 2, by congr 1, by omega, by omega, HM, trivial⟩, by simp [intOf]; omega⟩
    · have k1 : decide ((k : Int) < (n : Int) - (k : Int)) = false := decide_eq_false (by omega)
      have k2 : ¬ (k : Int) < (n : Int) - (k : Int) := by omega
      have HE := Lib.hid (show s = k from by obtain ⟨j, e⟩ := HJ.out; rw [e]; exact HS.out j (by omega) (by rw [Nat.pow_succ, ← e]; omega))
      go_wp2
      go_ret
      exact ⟨by rw [HE.out]; rfl, rfl⟩
set_option maxHeartbeats 4000000 in
set_option maxRecDepth 100000 in
theorem halves_calls (b o n cap : Nat) (h1 : 2 ≤ n) (h2 : n ≤ 4611686018427387904) (hc : n ≤ cap) (w : World) :
    Calls Tryz.prog 147 #[.slice (some ⟨b, o, none⟩) n cap] w fun r w' => r = .returned (.tuple #[.slice (some ⟨b, o, none⟩) (splitF n) (splitF n), .slice (some ⟨b, o + splitF n, none⟩) (n - splitF n) (n - splitF n)]) ∧ Below w.heap.size w w' := by
  have HS := Lib.hid (split_calls n h1 h2 w)
  obtain ⟨s, hs⟩ : ∃ s, s = splitF n := ⟨_, rfl⟩
  have hsl := splitF_lt n h1 h2
  rw [← hs] at HS hsl ⊢
  obtain ⟨hs1, hs2⟩ := hsl
  have hsc : s ≤ cap := by omega
  have hsn : s ≤ n := by omega
  clear hs h1 h2
  go_enter Tryz.func147, Tryz.ntmps147
  go_wp2_with fail
  refine (HS.out).mono ?_
  rintro r w1 ⟨rfl, rfl⟩
  go_wp2_with fail
  refine wp_region_quietQ (fun w' => Hid (Below w.heap.size w w')) (by kernel_rfl) (by kernel_rfl) (Lib.hid (below_drewN (Below.refl _ w) 1)) ?_
  iterate 13
    refine valQ ?_ ?_ (by rfl) (fun w' s1 => ?_) ?_ ?_
    rotate_left 2
    focus (go_simp; exact rfl)
    focus (go_simp; exact rfl)
  refine nilQ (fun w1 s1 => ?_)
  have HB1 := s1
  clear s1
  go_wp2
  go_ret2
  exact ⟨rfl, HB1.out⟩
/-- the leaves from p on, r of them, lie in a slice -/
def RowAt (w : World) (A : Option Addr) (L : List ByteArray) (p r : Nat) : Prop := 0 < r → ∃ b o, A = some ⟨b, o, none⟩ ∧ b < w.heap.size ∧ ∀ i, i < r → w.cell? ⟨b, o + i, none⟩ = some (.string (L.getD (p + i) ⟨#[]⟩))
theorem RowAt.keep {w w' : World} {A : Option Addr} {L : List ByteArray} {p r : Nat} (h : RowAt w A L p r) (hb : Below w.heap.size w w') : RowAt w' A L p r := fun h0 => by
  obtain ⟨b, o, h1, h2, h3⟩ := h h0
  exact ⟨b, o, h1, Nat.lt_of_lt_of_le h2 hb.size, fun i hi => (hb.cell (p := ⟨b, o + i, none⟩) h2).trans (h3 i hi)⟩
set_option maxHeartbeats 8000000 in
set_option maxRecDepth 100000 in
theorem mthRoot_calls (W : Nat) (L : List ByteArray) (hx : ∀ x ∈ L, x.size ≤ 4096) : ∀ r, r ≤ 1000000 → ∀ (p cap : Nat) (w : World) (A : Option Addr), r ≤ cap → RowAt w A L p r → Glob w →
    Calls Tryz.prog 83 #[.int .i64 W, .slice A r cap] w fun e w' => e = .returned (.string (mthR W L p r)) ∧ Below w.heap.size w w' := by
  intro r
  induction r using Nat.strongRecOn with
  | _ r ih =>
  intro hr p cap w A hcap hrow hG
  have IH := Lib.hid ih
  have HG := Lib.hid hG
  have HROW := Lib.hid hrow
  clear ih hG hrow
  by_cases h0 : r = 0
  · subst h0
    go_enter Tryz.func83, Tryz.ntmps83
    go_wp2_with fail
    refine (empty_calls W w HG.out).mono ?_
    rintro e w1 ⟨rfl, hb1⟩
    go_wp2
    go_ret
    exact ⟨rfl, hb1⟩
  · by_cases h1 : r = 1
    · subst h1
      obtain ⟨b, o, rfl, hb, hc⟩ := HROW.out (by omega)
      have c0 := hc 0 (by omega)
      rw [Nat.add_zero] at c0
      obtain ⟨x, hxx⟩ : ∃ x, x = L.getD p ⟨#[]⟩ := ⟨_, rfl⟩
      rw [Nat.add_zero] at c0
      have hxs : x.size ≤ 70368744177664 := by
        rw [hxx, List.getD_eq_getElem?_getD]
        cases hp : L[p]? with
        | none => exact Nat.le_trans (Nat.le_of_eq (rfl : (ByteArray.mk #[]).size = 0)) (Nat.zero_le _)
        | some y => have := hx y (List.mem_of_getElem? hp); simp; omega
      rw [← hxx] at c0
      have HXX := Lib.hid hxx
      have HXS := Lib.hid hxs
      clear hxx hxs hc hb
      go_enter Tryz.func83, Tryz.ntmps83
      go_wp2_with fail
      refine (leaf_calls W x HXS.out w HG.out).mono ?_
      rintro e w1 ⟨rfl, hb1⟩
      have HF := Lib.hid (And.intro (show mk (hashF W (0 :: x.data.toList)) = mthR W L p 1 by rw [HXX.out, mthR_one]; rfl) hb1)
      clear hb1 c0
      go_wp2
      go_ret
      exact ⟨by rw [← HF.out.1]; rfl, HF.out.2⟩
    · obtain ⟨b, o, rfl, hb, hc⟩ := HROW.out (by omega)
      have hs := splitF_lt r (by omega) (by omega)
      have HM := Lib.hid (mthR_more W L p r (by omega) (by omega))
      have HH := Lib.hid (halves_calls b o r cap (by omega) (by omega) hcap w)
      obtain ⟨s, hss⟩ : ∃ s, s = splitF r := ⟨_, rfl⟩
      rw [← hss] at hs HM HH
      have HL := Lib.hid (show ∀ w', Below w.heap.size w w' → Calls Tryz.prog 83 #[.int .i64 W, .slice (some ⟨b, o, none⟩) s s] w' fun e w'' => e = .returned (.string (mthR W L p s)) ∧ Below w'.heap.size w' w'' from fun w' hb' =>
        IH.out s (by omega) (by omega) p s w' _ (Nat.le_refl _) (fun _ => ⟨b, o, rfl, Nat.lt_of_lt_of_le hb hb'.size, fun i hi => (hb'.cell (p := ⟨b, o + i, none⟩) hb).trans (hc i (by omega))⟩) (HG.out.keep hb'))
      have HR := Lib.hid (show ∀ w', Below w.heap.size w w' → Calls Tryz.prog 83 #[.int .i64 W, .slice (some ⟨b, o + s, none⟩) ((r - s : Nat)) ((r - s : Nat))] w' fun e w'' => e = .returned (.string (mthR W L (p + s) (r - s))) ∧ Below w'.heap.size w' w'' from fun w' hb' =>
        IH.out (r - s) (by omega) (by omega) (p + s) (r - s) w' _ (Nat.le_refl _) (fun _ => ⟨b, o + s, rfl, Nat.lt_of_lt_of_le hb hb'.size, fun i hi => by
          have := (hb'.cell (p := ⟨b, o + (s + i), none⟩) hb).trans (hc (s + i) (by omega))
          rw [← Nat.add_assoc, ← Nat.add_assoc] at this
          exact this⟩) (HG.out.keep hb'))
      obtain ⟨t, ht⟩ : ∃ t, t = r - s := ⟨_, rfl⟩
      obtain ⟨x, hx1⟩ : ∃ x, x = mthR W L p s := ⟨_, rfl⟩
      obtain ⟨y, hy1⟩ : ∃ y, y = mthR W L (p + s) (r - s) := ⟨_, rfl⟩
      have HXS := Lib.hid (show x.size ≤ 35184372088832 from by rw [hx1]; have := mthR_size W L p s; omega)
      have HYS := Lib.hid (show y.size ≤ 35184372088832 from by rw [hy1]; have := mthR_size W L (p + s) (r - s); omega)
      rw [← hx1] at HL HM
      rw [← hy1] at HR HM
      rw [← ht] at HH HR
      clear hss hs hc hb ht hx1 hy1 IH HROW
      go_enter Tryz.func83, Tryz.ntmps83
      go_wp2_with fail
      refine (HH.out).mono ?_
      rintro e w1 ⟨rfl, hb1⟩
      have HB1 := Lib.hid hb1
      clear hb1
      go_wp2_with fail
      refine (HL.out w1 HB1.out).mono ?_
      rintro e w2 ⟨rfl, hb2⟩
      have HB2 := Lib.hid (HB1.out.trans (hb2.mono HB1.out.size))
      clear hb2
      go_wp2_with fail
      refine (HR.out w2 HB2.out).mono ?_
      rintro e w3 ⟨rfl, hb3⟩
      have HB3 := Lib.hid (HB2.out.trans (hb3.mono HB2.out.size))
      clear hb3
      go_wp2_with fail
      refine (node_calls W x y HXS.out HYS.out w3 (HG.out.keep HB3.out)).mono ?_
      rintro e w4 ⟨rfl, hb4⟩
      have HB4 := Lib.hid (HB3.out.trans (hb4.mono HB3.out.size))
      clear hb4
      go_wp2
      go_ret
      exact ⟨by rw [HM.out]; rfl, HB4.out⟩
end Go.Proofs.YtblkehdpenfhjaaGreatDoor
/-
  Package mth: Node, walked.
-/
set_option linter.unusedVariables false
set_option linter.unusedSimpArgs false
namespace Go.Proofs.YtblkehdpenfhjaaGreatDoor
open Go.RowKit Go.Maps Go.ChangeMaps Go.MapKept

set_option maxHeartbeats 8000000 in
set_option maxRecDepth 100000 in
theorem mthNode_calls (W : Nat) (L : List ByteArray) (hx : ∀ x ∈ L, x.size ≤ 4096) (hL : L.length ≤ 1000000) (x y : Int) (cap : Nat) (w : World) (A : Option Addr) (hcap : L.length ≤ cap) (hrow : RowAt w A L 0 L.length) (hG : Glob w) :
    Calls Tryz.prog 25 #[.int .i64 W, addrV x y, .slice A L.length cap] w fun e w' => e = .returned (.tuple #[.string (nodeA W L x y).1, .int .i64 (nodeA W L x y).2]) ∧ Below w.heap.size w w' := by
  obtain ⟨w0, hw0⟩ : ∃ w0, w0 = w.alloc (.cells #[.int .i64 x, .int .i64 y] 42) := ⟨_, rfl⟩
  have hbx : w0.heap[w.heap.size]? = some (.cells #[.int .i64 x, .int .i64 y] 42 (0, 0)) := by rw [hw0]; exact (MapKept.heap_alloc w _).1
  have hb0 : Below w.heap.size w w0 := by rw [hw0]; exact (Below.refl _ _).alloc (Nat.le_refl _) _
  have HB0 := Lib.hid hb0
  have HRT := Lib.hid (fun (p r : Nat) (w' : World) (hb : Below w.heap.size w w') (hr : r ≤ 1000000) (A : Option Addr) (h : RowAt w A L p r) => mthRoot_calls W L hx r hr p r w' A (Nat.le_refl _) (h.keep hb) (hG.keep hb))
  have HROW := Lib.hid hrow
  have d0 := cell_of_block (off := 0) hbx (by show 0 < 2; decide)
  have d1 := cell_of_block (off := 1) hbx (by show 1 < 2; decide)
  obtain ⟨len, hle⟩ : ∃ x, x = L.length := ⟨_, rfl⟩
  have HLE := Lib.hid hle
  rw [← hle] at HROW hcap ⊢
  clear hrow hG hbx hb0 hx hle
  by_cases hok : AOk x y
  · obtain ⟨l, rfl⟩ : ∃ l : Nat, x = (l : Int) := ⟨x.toNat, by have := hok.1; omega⟩
    obtain ⟨i, rfl⟩ : ∃ i : Nat, y = (i : Int) := ⟨y.toNat, by have := hok.2.2.1; omega⟩
    have hpl : PlOk l i := ⟨by have := hok.2.1; omega, by simpa using hok.2.2.2⟩
    have HSP := Lib.hid fun w => span_calls l i hpl w
    unfold plV at HSP
    obtain ⟨hiN, hhi⟩ : ∃ x, x = (i + 1) * 2 ^ l := ⟨_, rfl⟩
    obtain ⟨loN, hlo⟩ : ∃ x, x = i * 2 ^ l := ⟨_, rfl⟩
    have hlh : hiN = loN + 2 ^ l := by rw [hhi, hlo, Nat.add_mul, Nat.one_mul]
    have HNA := Lib.hid (show nodeA W L (l : Int) (i : Int) = if hiN ≤ len then (nodeF W L l i, 0) else (⟨#[]⟩, 80) from by
      unfold nodeA
      rw [if_pos hok]
      simp [← hhi, ← HLE.out])
    have HWH := Lib.hid (show 2 ^ l ≤ 4611686018427387904 → mthR W L loN (2 ^ l) = nodeF W L l i from fun h => by rw [hlo]; exact mthR_whole W L l i h)
    rw [← hlo, ← hhi] at HSP
    have HLH := Lib.hid hlh
    have hll : loN ≤ hiN := by rw [hlh]; exact Nat.le_add_right _ _
    unfold addrV
    clear hok hpl hhi hlo hlh
    by_cases hc : hiN ≤ len
    · have k1 : decide ((len : Int) < (hiN : Int)) = false := decide_eq_false (by omega)
      have k2 : ¬ ((len : Int) < (hiN : Int)) := by omega
      have hhc : hiN ≤ cap := by omega
      have h2l : 0 < 2 ^ l := Nat.two_pow_pos l
      have hlt : loN < hiN := by have := HLH.out; omega
      have hne : ¬ (hiN = loN) := by omega
      obtain ⟨b, o, rfl, hb, hcl⟩ := HROW.out (by omega)
      have HRR := Lib.hid (show ∀ w', Below w.heap.size w w' → Calls Tryz.prog 83 #[.int .i64 W, .slice (some ⟨b, o + loN, none⟩) (hiN - loN) (hiN - loN)] w' fun e w'' => e = .returned (.string (nodeF W L l i)) ∧ Below w'.heap.size w' w'' from fun w' hb' => by
        have e1 : hiN - loN = 2 ^ l := by have := HLH.out; omega
        rw [e1]
        have h3 : 2 ^ l ≤ 1000000 := by have := HLH.out; have := HLE.out; omega
        have := HRT.out loN (2 ^ l) w' hb' h3 (some ⟨b, o + loN, none⟩) (fun _ => ⟨b, o + loN, rfl, hb, fun j hj => by
          have := hcl (loN + j) (by have := HLH.out; omega)
          rw [← Nat.add_assoc, Nat.zero_add] at this
          exact this⟩)
        rw [HWH.out (by omega)] at this
        exact this)
      have HND := Lib.hid (show nodeA W L (l : Int) (i : Int) = (nodeF W L l i, 0) from by rw [HNA.out, if_pos hc])
      rw [HND.out]
      clear HNA HND h2l hcl hb
      go_enter Tryz.func25, Tryz.ntmps25
      go_upto_region 1 with (fail)
      rw [← hw0]
      clear hw0
      go_wp2_with fail
      refine (HSP.out w0).mono ?_
      rintro e w1 ⟨rfl, hb1⟩
      have HB1 := Lib.hid (HB0.out.trans (hb1.mono HB0.out.size))
      clear hb1 d0 d1
      go_wp2_with fail
      refine (HRR.out w1 HB1.out).mono ?_
      rintro e w2 ⟨rfl, hb2⟩
      have HB2 := Lib.hid (HB1.out.trans (hb2.mono HB1.out.size))
      clear hb2
      go_wp2
      go_ret2
      exact ⟨rfl, HB2.out⟩
    · have k1 : decide ((len : Int) < (hiN : Int)) = true := decide_eq_true (by omega)
      have k2 : (len : Int) < (hiN : Int) := by omega
      have HND := Lib.hid (show nodeA W L (l : Int) (i : Int) = (⟨#[]⟩, 80) from by rw [HNA.out, if_neg hc])
      rw [HND.out]
      clear HNA HND
      go_enter Tryz.func25, Tryz.ntmps25
      go_upto_region 1 with (fail)
      rw [← hw0]
      clear hw0
      go_wp2_with fail
      refine (HSP.out w0).mono ?_
      rintro e w1 ⟨rfl, hb1⟩
      have HB1 := Lib.hid (HB0.out.trans (hb1.mono HB0.out.size))
      clear hb1 d0 d1
      go_wp2
      go_ret2
      exact ⟨rfl, HB1.out⟩
  · have HSP := Lib.hid (span_no x y hok w0)
    have HND := Lib.hid (show nodeA W L x y = (⟨#[]⟩, 50) from by unfold nodeA; rw [if_neg hok])
    rw [HND.out]
    unfold addrV at HSP ⊢
    clear HND hok
    go_enter Tryz.func25, Tryz.ntmps25
    go_upto_region 1 with (fail)
    rw [← hw0]
    clear hw0
    go_wp2_with fail
    refine (HSP.out).mono ?_
    rintro e w1 ⟨rfl, hb1⟩
    have HB1 := Lib.hid (HB0.out.trans (hb1.mono HB0.out.size))
    clear hb1 d0 d1
    go_wp2
    go_ret2
    exact ⟨rfl, HB1.out⟩
end Go.Proofs.YtblkehdpenfhjaaGreatDoor
/-
  The shelf's contracts of sorted keys: the tables of numbers and their facts. No conditions.
-/
set_option linter.unusedVariables false
namespace Go.Proofs.YtblkehdpenfhjaaGreatDoor
open Go.RowKit Go.Shelf Go.Proofs

def keysI_ren : Ren where
  f := fun x => match x with
    | 7 => 85
    | 10 => 150
    | n => n
  t := fun x => match x with
    | 23 => 85
    | 26 => 3
    | 3 => 4
    | 28 => 122
    | 0 => 0
    | 27 => 118
    | 33 => 119
    | 4 => 4
    | n => n
  g := fun n => n
set_option maxRecDepth 100000 in
theorem keysI : SlLaysZI.n7 Tryz.prog keysI_ren where
  mixed := by kernel_rfl
  f7 := ⟨ "maps.Keys[map[int]bool,int,bool]", by decide, Eq.trans Tryz.func85 (congrArg some (by kernel_rfl))⟩
  f10 := ⟨ "maps.Keys[map[int]bool,int,bool]$1", by decide, Eq.trans Tryz.func150 (congrArg some (by kernel_rfl))⟩
  t0 := Tryz.underlying0
  a0 := Tryz.isAgg0
  z0 := Tryz.sizeOf0
  v0 := Tryz.zeroValue0
  t4 := Tryz.underlying4
  a4 := Tryz.isAgg4
  z4 := Tryz.sizeOf4
  v4 := Tryz.zeroValue4
  t23 := Tryz.underlying85
  a23 := Tryz.isAgg85
  z23 := Tryz.sizeOf85
  v23 := Tryz.zeroValue85
  t26 := Tryz.underlying3
  a26 := Tryz.isAgg3
  z26 := Tryz.sizeOf3
  v26 := Tryz.zeroValue3
  t27 := Tryz.underlying118
  a27 := Tryz.isAgg118
  z27 := Tryz.sizeOf118
  v27 := Tryz.zeroValue118
  t28 := Tryz.underlying122
  a28 := Tryz.isAgg122
  z28 := Tryz.sizeOf122
  v28 := Tryz.zeroValue122
  t33 := Tryz.underlying119
  a33 := Tryz.isAgg119
  z33 := Tryz.sizeOf119
  v33 := Tryz.zeroValue119
def sortedI_ren : Ren where
  f := fun x => match x with
    | 6 => 84
    | 8 => 148
    | 9 => 149
    | 11 => 219
    | 13 => 221
    | 12 => 220
    | 23 => 286
    | 24 => 287
    | 14 => 277
    | 15 => 278
    | 16 => 279
    | 17 => 280
    | 18 => 281
    | 19 => 282
    | 20 => 283
    | 21 => 284
    | 22 => 285
    | 25 => 330
    | 26 => 331
    | 27 => 332
    | 28 => 333
    | 29 => 334
    | 30 => 335
    | 31 => 363
    | n => n
  t := fun x => match x with
    | 26 => 3
    | 28 => 122
    | 24 => 73
    | 0 => 0
    | 3 => 3
    | 37 => 45
    | 48 => 234
    | 50 => 194
    | 4 => 4
    | 40 => 296
    | 39 => 295
    | 45 => 285
    | 5 => 5
    | 9 => 9
    | 51 => 350
    | 55 => 342
    | 57 => 366
    | 58 => 203
    | 33 => 119
    | n => n
  g := fun n => n
set_option maxRecDepth 100000 in
theorem sortedI : SlLaysZI.n6 Tryz.prog sortedI_ren where
  mixed := by kernel_rfl
  f6 := ⟨ "slices.Sorted[int]", by decide, Eq.trans Tryz.func84 (congrArg some (by kernel_rfl))⟩
  f8 := ⟨ "slices.Collect[int]", by decide, Eq.trans Tryz.func148 (congrArg some (by kernel_rfl))⟩
  f11 := ⟨ "slices.AppendSeq[[]int,int]", by decide, Eq.trans Tryz.func219 (congrArg some (by kernel_rfl))⟩
  t0 := Tryz.underlying0
  a0 := Tryz.isAgg0
  z0 := Tryz.sizeOf0
  v0 := Tryz.zeroValue0
  t24 := Tryz.underlying73
  a24 := Tryz.isAgg73
  z24 := Tryz.sizeOf73
  v24 := Tryz.zeroValue73
  t26 := Tryz.underlying3
  a26 := Tryz.isAgg3
  z26 := Tryz.sizeOf3
  v26 := Tryz.zeroValue3
  t28 := Tryz.underlying122
  a28 := Tryz.isAgg122
  z28 := Tryz.sizeOf122
  v28 := Tryz.zeroValue122
  i26 := by kernel_rfl
def sortI_ren : Ren where
  f := fun x => match x with
    | 5 => 149
    | 8 => 221
    | 7 => 220
    | 19 => 286
    | 20 => 287
    | 10 => 277
    | 11 => 278
    | 12 => 279
    | 13 => 280
    | 14 => 281
    | 15 => 282
    | 16 => 283
    | 17 => 284
    | 18 => 285
    | 30 => 330
    | 31 => 331
    | 32 => 332
    | 33 => 333
    | 34 => 334
    | 35 => 335
    | 40 => 363
    | n => n
  t := fun x => match x with
    | 23 => 73
    | 25 => 3
    | 3 => 3
    | 32 => 45
    | 22 => 73
    | 0 => 0
    | 44 => 234
    | 46 => 194
    | 4 => 4
    | 36 => 296
    | 35 => 295
    | 41 => 285
    | 5 => 5
    | 9 => 9
    | 53 => 350
    | 57 => 342
    | 63 => 366
    | 64 => 203
    | n => n
  g := fun n => n
set_option maxRecDepth 100000 in
theorem sortI : SlLaysM.n5 Tryz.prog sortI_ren where
  mixed := by kernel_rfl
  f5 := ⟨ "slices.Sort[[]int,int]", by decide, Eq.trans Tryz.func149 (congrArg some (by kernel_rfl))⟩
  f7 := ⟨ "slices.pdqsortOrdered[int]", by decide, Eq.trans Tryz.func220 (congrArg some (by kernel_rfl))⟩
  f8 := Eq.trans Tryz.func221 (congrArg some (by kernel_rfl))
  f10 := ⟨ "slices.insertionSortOrdered[int]", by decide, Eq.trans Tryz.func277 (congrArg some (by kernel_rfl))⟩
  f11 := ⟨ "slices.heapSortOrdered[int]", by decide, Eq.trans Tryz.func278 (congrArg some (by kernel_rfl))⟩
  f12 := ⟨ "slices.breakPatternsOrdered[int]", by decide, Eq.trans Tryz.func279 (congrArg some (by kernel_rfl))⟩
  f13 := ⟨ "slices.choosePivotOrdered[int]", by decide, Eq.trans Tryz.func280 (congrArg some (by kernel_rfl))⟩
  f14 := ⟨ "slices.reverseRangeOrdered[int]", by decide, Eq.trans Tryz.func281 (congrArg some (by kernel_rfl))⟩
  f15 := ⟨ "slices.partialInsertionSortOrdered[int]", by decide, Eq.trans Tryz.func282 (congrArg some (by kernel_rfl))⟩
  f16 := ⟨ "cmp.Less[int]", by decide, Eq.trans Tryz.func283 (congrArg some (by kernel_rfl))⟩
  f17 := ⟨ "slices.partitionEqualOrdered[int]", by decide, Eq.trans Tryz.func284 (congrArg some (by kernel_rfl))⟩
  f18 := ⟨ "slices.partitionOrdered[int]", by decide, Eq.trans Tryz.func285 (congrArg some (by kernel_rfl))⟩
  f19 := Eq.trans Tryz.func286 (congrArg some (by kernel_rfl))
  f20 := Eq.trans Tryz.func287 (congrArg some (by kernel_rfl))
  f30 := ⟨ "slices.siftDownOrdered[int]", by decide, Eq.trans Tryz.func330 (congrArg some (by kernel_rfl))⟩
  f31 := Eq.trans Tryz.func331 (congrArg some (by kernel_rfl))
  f32 := Eq.trans Tryz.func332 (congrArg some (by kernel_rfl))
  f33 := ⟨ "slices.medianAdjacentOrdered[int]", by decide, Eq.trans Tryz.func333 (congrArg some (by kernel_rfl))⟩
  f34 := ⟨ "slices.medianOrdered[int]", by decide, Eq.trans Tryz.func334 (congrArg some (by kernel_rfl))⟩
  f35 := ⟨ "cmp.isNaN[int]", by decide, Eq.trans Tryz.func335 (congrArg some (by kernel_rfl))⟩
  f40 := ⟨ "slices.order2Ordered[int]", by decide, Eq.trans Tryz.func363 (congrArg some (by kernel_rfl))⟩
  t0 := Tryz.underlying0
  a0 := Tryz.isAgg0
  z0 := Tryz.sizeOf0
  v0 := Tryz.zeroValue0
  t3 := Tryz.underlying3
  a3 := Tryz.isAgg3
  z3 := Tryz.sizeOf3
  v3 := Tryz.zeroValue3
  t4 := Tryz.underlying4
  a4 := Tryz.isAgg4
  z4 := Tryz.sizeOf4
  v4 := Tryz.zeroValue4
  t5 := Tryz.underlying5
  a5 := Tryz.isAgg5
  z5 := Tryz.sizeOf5
  v5 := Tryz.zeroValue5
  t9 := Tryz.underlying9
  a9 := Tryz.isAgg9
  z9 := Tryz.sizeOf9
  v9 := Tryz.zeroValue9
  t22 := Tryz.underlying73
  a22 := Tryz.isAgg73
  z22 := Tryz.sizeOf73
  v22 := Tryz.zeroValue73
  t23 := Tryz.underlying73
  a23 := Tryz.isAgg73
  z23 := Tryz.sizeOf73
  v23 := Tryz.zeroValue73
  t25 := Tryz.underlying3
  a25 := Tryz.isAgg3
  z25 := Tryz.sizeOf3
  v25 := Tryz.zeroValue3
  t32 := Tryz.underlying45
  a32 := Tryz.isAgg45
  z32 := Tryz.sizeOf45
  v32 := Tryz.zeroValue45
  t35 := Tryz.underlying295
  a35 := Tryz.isAgg295
  z35 := Tryz.sizeOf295
  v35 := Tryz.zeroValue295
  t36 := Tryz.underlying296
  a36 := Tryz.isAgg296
  z36 := Tryz.sizeOf296
  v36 := Tryz.zeroValue296
  t41 := Tryz.underlying285
  a41 := Tryz.isAgg285
  z41 := Tryz.sizeOf285
  v41 := Tryz.zeroValue285
  t44 := Tryz.underlying234
  a44 := Tryz.isAgg234
  z44 := Tryz.sizeOf234
  v44 := Tryz.zeroValue234
  t46 := Tryz.underlying194
  a46 := Tryz.isAgg194
  z46 := Tryz.sizeOf194
  v46 := Tryz.zeroValue194
  t53 := Tryz.underlying350
  a53 := Tryz.isAgg350
  z53 := Tryz.sizeOf350
  v53 := Tryz.zeroValue350
  t57 := Tryz.underlying342
  a57 := Tryz.isAgg342
  z57 := Tryz.sizeOf342
  v57 := Tryz.zeroValue342
  t63 := Tryz.underlying366
  a63 := Tryz.isAgg366
  z63 := Tryz.sizeOf366
  v63 := Tryz.zeroValue366
  t64 := Tryz.underlying203
  a64 := Tryz.isAgg203
  z64 := Tryz.sizeOf203
  v64 := Tryz.zeroValue203
end Go.Proofs.YtblkehdpenfhjaaGreatDoor
/-
  maps.Keys and slices.Sorted of a map from numbers; Store.Get.
-/
set_option linter.unusedVariables false
set_option linter.unusedSimpArgs false
namespace Go.Proofs.YtblkehdpenfhjaaGreatDoor
open Go.RowKit Go.Maps Go.ChangeMaps Go.MapKept Go.Sort Go.Shelf

theorem sortsI (m : Nat) : AnyZI.SortsIn Tryz.prog sortedI_ren Fence.wide m :=
  ⟨fun blk off cap ss W hH hblk hsz => callsIn_wide.2 (AnyM.slices_Sort_int sortI blk off cap ss W hH hblk hsz),
   fun p cap W => callsIn_wide.2 (AnyM.slices_Sort_int_none sortI p cap W)⟩
/-- the keys of a map from numbers -/
theorem keysI_of {P : Program} {k : TypeId} {w : World} {b : Nat} {f : Nat → Option Value} (hk : P.underlying k = some (.int .i64)) (h : IntMap P k w b f) :
    ∃ D : DataW Value, w.ownsMap P k tok b (cntN f) D ∧ Maps.size D = cntN f ∧ ∀ ss : List Int, ss.Perm (intKeys D) → ss.length = cntN f ∧ ∀ x ∈ ss, ∃ j : Nat, x = (j : Int) ∧ (f j).isSome = true := by
  obtain ⟨D, hown, hsz, hhas, _⟩ := h
  refine ⟨D, hown, hsz, fun ss hp => ?_⟩
  obtain ⟨es, hD, hpw, _⟩ := hown.entries (int_keyed hk)
  obtain ⟨es', hD', hko⟩ := hown.keysOf
  obtain rfl : es = es' := by rw [hD] at hD'; injection hD'
  subst hD
  refine ⟨?_, fun x hx => ?_⟩
  · rw [hp.length_eq, ← hsz]
    show (es.map fun p => Go.intOf p.1).length = _
    rw [List.length_map]
    rfl
  · have hx' : x ∈ es.map fun p => Go.intOf p.1 := hp.mem_iff.1 hx
    obtain ⟨p, hpm, rfl⟩ := List.mem_map.1 hx'
    obtain ⟨v, hv⟩ := hko p hpm
    obtain ⟨y, _, hy, _⟩ := Maps.keyOf_i64 hk hv
    have h1 : Maps.has (DataW.map es) (.int .i64 y) = true := by
      rw [has_eq, List.any_eq_true]
      exact ⟨p, hpm, by rw [hy]; simp [Lit.sameKey]⟩
    rw [hhas] at h1
    have h2 : Go.intOf p.1 = y := by rw [hy]; rfl
    rw [h2]
    unfold intF at h1
    by_cases hy0 : 0 ≤ y
    · simp only [hy0, if_true] at h1
      exact ⟨y.toNat, by omega, h1⟩
    · simp [hy0] at h1
set_option maxHeartbeats 4000000 in
set_option maxRecDepth 100000 in
theorem numbers_calls {w : World} {b : Nat} {f : Nat → Option Value} (h : IntMap Tryz.prog 3 w b f) (hmax : cntN f ≤ 1000000000) :
    Calls Tryz.prog 85 #[.map (some b)] w (fun e w' => e = .returned (.func (.func 150) #[] #[.pointer (some ⟨w.heap.size, 0, none⟩)]) ∧ w' = w.alloc (.cells #[.map (some b)] 85)) ∧
    Calls Tryz.prog 84 #[.func (.func 150) #[] #[.pointer (some ⟨w.heap.size, 0, none⟩)]] (w.alloc (.cells #[.map (some b)] 85)) fun e w' => ∃ (v : Value) (js : List Nat), e = .returned v ∧ (∀ j ∈ js, (f j).isSome = true) ∧ js.length = cntN f ∧
      w'.ownsRow w.heap.size 3 1 v js.length (js.map fun (j : Nat) => Value.int .i64 (j : Int)) ∧ Below w.heap.size w w' := by
  obtain ⟨D, hown, hsz, hks⟩ := keysI_of Tryz.underlying3 h
  have hbl := hown.lt
  have hseq : SeqGives Fence.wide 2 Tryz.prog 150 #[.pointer (some ⟨w.heap.size, 0, none⟩)] encZ (fun ss => ss.Perm (intKeys D)) (Maps.size D) (w.alloc (.cells #[.map (some b)] 85)) :=
    AnyZI.keys_gives (ρ := keysI_ren) { keysI with } Fence.wide _ trivial rfl (by omega) w.heap.size b (cntN f) D _ (by simp) (by simp) (by
      obtain ⟨es, clock, hb, Ft, hs, hD⟩ := hown
      exact ⟨es, clock, (Below.heap_alloc _ _ b hbl).trans hb, Ft, hs, hD⟩)
  have cS := AnyZI.sorted_in sortedI Fence.wide 5 trivial trivial trivial trivial rfl (by omega) (sortsI _) (enters_of Tryz.func149 (by kernel_rfl) rfl) 150 #[.pointer (some ⟨w.heap.size, 0, none⟩)] trivial (enters_of Tryz.func150 (by kernel_rfl) rfl) _ _ (by rw [hsz]; unfold maxLen; omega) (by rw [hsz]; omega) _ hseq
  refine ⟨(callsIn_wide (n := 5)).1 (AnyZI.keys_in keysI Fence.wide 5 trivial rfl (some b) w), ((callsIn_wide (n := 5)).1 cS).mono ?_⟩
  rintro e w' ⟨v, ss, rfl, hS, hrow, hnil, hb⟩
  have hS' : (ss.mergeSort (fun x y => decide (x ≤ y))).Perm (intKeys D) := (List.mergeSort_perm ss _).trans hS
  obtain ⟨hl, hx⟩ := hks _ hS'
  obtain ⟨ts, hts⟩ : ∃ ts, ts = ss.mergeSort (fun x y => decide (x ≤ y)) := ⟨_, rfl⟩
  have hrow2 : w'.ownsRow w.heap.size 3 1 v ss.length ((ss.mergeSort (fun x y => decide (x ≤ y))).map encZ) := ownsRow_base_a hrow (by simp)
  rw [← hts] at hl hx hrow2
  have hmap : (ts.map Int.toNat).map (fun (j : Nat) => Value.int .i64 (j : Int)) = ts.map encZ := by
    rw [List.map_map]
    refine List.map_congr_left fun x hxm => ?_
    obtain ⟨j, e, _⟩ := hx x hxm
    subst e
    rfl
  refine ⟨v, ts.map Int.toNat, rfl, fun j hj => ?_, by rw [List.length_map]; exact hl, ?_, ((Below.refl _ w).alloc (Nat.le_refl _) _).trans (hb.mono (by simp))⟩
  · obtain ⟨x, hxm, rfl⟩ := List.mem_map.1 hj
    obtain ⟨k, e, h2⟩ := hx x hxm
    subst e
    exact h2
  · rw [hmap, List.length_map]
    have e : ts.length = ss.length := by rw [hts, List.length_mergeSort]
    rw [e]
    exact hrow2
section
variable {w w' : World} {sb room age : Nat} {now disk : Recs} {log : List Value} {F : Nat → Prop}
set_option maxRecDepth 100000 in
set_option maxHeartbeats 4000000 in
theorem get_calls (h : StoreAt w sb room now disk log age F) (k : ByteArray) (hk1 : 1 ≤ k.size) (hk2 : k.size ≤ 64) :
    Calls Tryz.prog 151 #[.pointer (some ⟨sb, 0, none⟩), .string k] w fun r w' => r = .returned (.tuple #[.string ((getR now k).getD ⟨#[]⟩), .int .i64 (if (getR now k).isSome then 0 else 123)]) ∧ w = w' := by
  obtain ⟨⟨mb, kb, lv, h1, _⟩, _⟩ := h
  have c1 := cell_of_block (off := 1) h1.blk (by show 1 < 8; decide)
  have c5 := cell_of_block (off := 5) h1.blk (by show 5 < 8; decide)
  dsimp only [List.getElem_toArray, List.getElem_cons_zero, List.getElem_cons_succ] at c1 c5
  have hlook := h1.now.look keyedS Tryz.underlying103 (Tryz.zeroValue9 w) (key := .string k) (WideMaps.keyOf_string_mk Tryz.underlying9 (by unfold maxLen; omega))
  have hat : recF now (.string k.data.toList) = (getR now k).map Value.string := recF_at now k
  rw [hat] at hlook
  have HKY := Lib.hid (keyed_calls k hk1 hk2 w)
  clear h1 hat
  cases hg : getR now k with
  | none =>
    rw [hg] at hlook
    simp only [Option.map_none, Option.getD_none, Option.isSome_none] at hlook ⊢
    clear hg
    go_enter Tryz.func151, Tryz.ntmps151
    go_wp2_with fail
    refine (HKY.out).mono ?_
    rintro r w1 ⟨rfl, rfl⟩
    go_wp2
    go_ret2
    exact ⟨rfl, rfl⟩
  | some u =>
    rw [hg] at hlook
    simp only [Option.map_some, Option.getD_some, Option.isSome_some] at hlook ⊢
    clear hg
    go_enter Tryz.func151, Tryz.ntmps151
    go_wp2_with fail
    refine (HKY.out).mono ?_
    rintro r w1 ⟨rfl, rfl⟩
    go_wp2
    go_ret2
    exact ⟨rfl, rfl⟩
end
end Go.Proofs.YtblkehdpenfhjaaGreatDoor
