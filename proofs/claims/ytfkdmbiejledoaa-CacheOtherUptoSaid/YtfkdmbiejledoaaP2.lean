/-
  Numbers as keys beside their digits: plain laws.
-/
import Derived.Test.YtfkdmbiejledoaaP1
import Derived.Test.YtfkdmbiejledoaaR6
set_option linter.unusedVariables false
set_option linter.unusedSimpArgs false
namespace Go.Proofs.Ytfkdmbiejledoaa
open Go.RowKit


theorem dN_ne (f u : Nat) : dN (f + 1) u ≠ [] := by unfold dN; split <;> simp
theorem dig_inj {a b : Nat} (ha : a ≤ 9) (hb : b ≤ 9) (h : UInt8.ofNat (48 + a) = UInt8.ofNat (48 + b)) : a = b := by
  have h2 := congrArg UInt8.toNat h
  rw [UInt8.toNat_ofNat', UInt8.toNat_ofNat'] at h2
  omega
theorem dN_inj : ∀ (f u v : Nat), u < 10 ^ f → v < 10 ^ f → dN f u = dN f v → u = v
  | 0, u, v, hu, hv, _ => by simp at hu hv; omega
  | f + 1, u, v, hu, hv, h => by
    rw [Nat.pow_succ] at hu hv
    unfold dN at h
    by_cases h1 : u ≤ 9 <;> by_cases h2 : v ≤ 9
    · rw [if_pos h1, if_pos h2] at h
      injection h with h _
      exact dig_inj h1 h2 h
    · rw [if_pos h1, if_neg h2] at h
      cases f with
      | zero => simp at hv; omega
      | succ f =>
        have h3 : (dN (f + 1) (v / 10)).length = 0 := by have := congrArg List.length h; simp at this; simp [this]
        exact absurd (List.eq_nil_of_length_eq_zero h3) (dN_ne f _)
    · rw [if_neg h1, if_pos h2] at h
      cases f with
      | zero => simp at hu; omega
      | succ f =>
        have h3 : (dN (f + 1) (u / 10)).length = 0 := by have := congrArg List.length h; simp at this; simp [this]
        exact absurd (List.eq_nil_of_length_eq_zero h3) (dN_ne f _)
    · rw [if_neg h1, if_neg h2] at h
      obtain ⟨h3, h4⟩ := List.append_inj' h rfl
      injection h4 with h4 _
      have := dN_inj f _ _ (by omega) (by omega) h3
      have := dig_inj (by omega) (by omega) h4
      omega
theorem dkey_inj {a b : Int} (ha : InI64 a) (hb : InI64 b) (h : dkey a = dkey b) : a = b := by
  unfold dkey at h
  have h2 := congrArg (fun x : ByteArray => x.data.toList) h
  simp only [mk_list] at h2
  injection h2 with _ h2
  have h3 := dN_inj 20 _ _ (by omega) (by omega) h2
  unfold InI64 at ha hb
  omega
theorem dkey_iff {a b : Int} (ha : InI64 a) (hb : InI64 b) : dkey a = dkey b ↔ a = b := ⟨dkey_inj ha hb, fun h => by rw [h]⟩

abbrev Ep := List (Int × (ByteArray × Int))
def toE (x : Int × (ByteArray × Int)) : ByteArray × ByteArray := (dkey x.1, x.2.1)
structure GoodP (ep : Ep) (most : Int) : Prop where
  len : (ep.length : Int) ≤ most
  ks : ∀ x ∈ ep, InI64 x.1
  vs : ∀ x ∈ ep, x.2.2 = x.2.1.size
theorem GoodP.good {ep : Ep} {n : Int} (h : GoodP ep n) : Good (ep.map toE) n :=
  ⟨by rw [List.length_map]; exact h.len, fun x hx => by obtain ⟨y, _, rfl⟩ := List.mem_map.1 hx; have := dkey_size y.1; show (dkey y.1).size ≤ 100; omega⟩
theorem findP {ep : Ep} (hs : ∀ x ∈ ep, InI64 x.1) {k : Int} (hk : InI64 k) : findV (ep.map toE) (dkey k) = (findV ep k).map (·.1) := by
  unfold findV
  rw [List.find?_map]
  have : List.find? ((fun x : ByteArray × ByteArray => decide (x.1 = dkey k)) ∘ toE) ep = List.find? (fun x => decide (x.1 = k)) ep := by
    induction ep with
    | nil => rfl
    | cons x ep ih =>
      rw [List.find?_cons, List.find?_cons, ih fun y hy => hs y (List.mem_cons_of_mem _ hy)]
      have e : ((fun x : ByteArray × ByteArray => decide (x.1 = dkey k)) ∘ toE) x = decide (x.1 = k) := by
        show decide (dkey x.1 = dkey k) = _
        rw [decide_eq_decide]; exact dkey_iff (hs x (by simp)) hk
      rw [e]
  rw [this, Option.map_map, Option.map_map]
  rfl
theorem findP_some {ep : Ep} (hs : ∀ x ∈ ep, InI64 x.1) {k : Int} (hk : InI64 k) : (findV (ep.map toE) (dkey k)).isSome = (findV ep k).isSome := by rw [findP hs hk]; cases findV ep k <;> rfl
theorem remP {ep : Ep} (hs : ∀ x ∈ ep, InI64 x.1) {k : Int} (hk : InI64 k) : rem (ep.map toE) (dkey k) = (rem ep k).map toE := by
  unfold rem
  rw [List.filter_map]
  congr 1
  refine List.filter_congr fun x hx => ?_
  show (!decide (dkey x.1 = dkey k)) = _
  congr 1
  rw [decide_eq_decide]; exact dkey_iff (hs x hx) hk
def getPE (ep : Ep) (k : Int) : Ep := match findV ep k with
  | some v => (k, v) :: rem ep k
  | none => ep
def putPOut (ep : Ep) (most : Int) (k : Int) : Int × Bool :=
  if (findV ep k).isSome then (0, false) else if most = 0 then (k, true) else if (ep.length : Int) < most then (0, false) else (((ep.getLast?).map (·.1)).getD 0, true)
def putPE (ep : Ep) (most : Int) (k : Int) (v : ByteArray × Int) : Ep :=
  if (findV ep k).isSome then (k, v) :: rem ep k else if most = 0 then ep else if (ep.length : Int) < most then (k, v) :: ep else (k, v) :: ep.dropLast
theorem getP_toE {ep : Ep} (hs : ∀ x ∈ ep, InI64 x.1) {k : Int} (hk : InI64 k) : getE (ep.map toE) (dkey k) = (getPE ep k).map toE := by
  unfold getE getPE
  rw [findP hs hk, remP hs hk]
  cases findV ep k <;> rfl
theorem putP_toE {ep : Ep} (hs : ∀ x ∈ ep, InI64 x.1) {k : Int} (hk : InI64 k) (n : Int) (v : ByteArray) (z : Int) : putE (ep.map toE) n (dkey k) v = (putPE ep n k (v, z)).map toE := by
  unfold putE putPE
  rw [findP_some hs hk, remP hs hk, List.length_map]
  split
  · rfl
  · split
    · rfl
    · split
      · rfl
      · rw [List.map_cons, List.map_dropLast]; rfl
theorem putPOut_toE {ep : Ep} (hs : ∀ x ∈ ep, InI64 x.1) {k : Int} (hk : InI64 k) (n : Int) (h0 : 0 ≤ n) :
    (putOut (ep.map toE) n (dkey k)).2 = (putPOut ep n k).2 ∧ ((putPOut ep n k).2 = true → (putOut (ep.map toE) n (dkey k)).1 = dkey (putPOut ep n k).1 ∧ InI64 (putPOut ep n k).1) ∧ ((putPOut ep n k).2 = false → (putPOut ep n k).1 = 0) := by
  unfold putOut putPOut
  rw [findP_some hs hk, List.length_map]
  split
  · exact ⟨rfl, (fun h => by cases h), fun _ => rfl⟩
  · split
    · exact ⟨rfl, fun _ => ⟨rfl, hk⟩, fun h => by cases h⟩
    · split
      · exact ⟨rfl, (fun h => by cases h), fun _ => rfl⟩
      · rename_i h1 h2 h3
        have hne : ep ≠ [] := by rintro rfl; simp at h3; omega
        refine ⟨rfl, fun _ => ?_, fun h => by cases h⟩
        rw [List.getLast?_map, List.getLast?_eq_some_getLast hne]
        exact ⟨rfl, hs _ (List.getLast_mem hne)⟩
def tellPE (ep : Ep) (n : Int) (kd k : Int) (v : ByteArray) : Ep := if kd = 1 then getPE ep k else if kd = 3 then putPE ep n k (v, v.size) else if kd = 4 then rem ep k else if kd = 5 then [] else ep
theorem tellP_toE {ep : Ep} (hs : ∀ x ∈ ep, InI64 x.1) {k : Int} (hk : InI64 k) (n kd : Int) (v : ByteArray) : tellE (ep.map toE) n kd (dkey k) v = (tellPE ep n kd k v).map toE := by
  unfold tellE tellPE
  split
  · exact getP_toE hs hk
  · split
    · exact putP_toE hs hk _ _ _
    · split
      · exact remP hs hk
      · split <;> rfl
theorem rem_subP {ep : Ep} {k : Int} {x : Int × (ByteArray × Int)} (h : x ∈ rem ep k) : x ∈ ep := (List.mem_filter.1 h).1
theorem tellPE_mem {ep : Ep} {n kd k : Int} {v : ByteArray} {x : Int × (ByteArray × Int)} (h : x ∈ tellPE ep n kd k v) : x = (k, (v, (v.size : Int))) ∨ x ∈ ep := by
  unfold tellPE getPE putPE at h
  split at h
  · refine .inr ?_
    cases hv : findV ep k with
    | none => rw [hv] at h; exact h
    | some u =>
      rw [hv] at h
      obtain ⟨xs, ys, e, _⟩ := findV_some hv
      rcases List.mem_cons.1 h with h | h
      · rw [h, e]; simp
      · exact rem_subP h
  · split at h
    · split at h
      · rcases List.mem_cons.1 h with h | h
        · exact .inl h
        · exact .inr (rem_subP h)
      · split at h
        · exact .inr h
        · split at h
          · exact List.mem_cons.1 h
          · rcases List.mem_cons.1 h with h | h
            · exact .inl h
            · exact .inr (List.dropLast_subset _ h)
    · split at h
      · exact .inr (rem_subP h)
      · split at h
        · cases h
        · exact .inr h
theorem nodupP {ep : Ep} (hs : ∀ x ∈ ep, InI64 x.1) (h : (ep.map (·.1)).Nodup) : ((ep.map toE).map (·.1)).Nodup := by
  induction ep with
  | nil => simp
  | cons x ep ih =>
    simp only [List.map_cons, List.nodup_cons] at h ⊢
    refine ⟨fun hm => h.1 ?_, ih (fun y hy => hs y (List.mem_cons_of_mem _ hy)) h.2⟩
    obtain ⟨y, hy, e⟩ := List.mem_map.1 hm
    obtain ⟨z, hz, rfl⟩ := List.mem_map.1 hy
    have := dkey_inj (hs z (List.mem_cons_of_mem _ hz)) (hs x (by simp)) e
    rw [← this]; exact List.mem_map_of_mem hz
theorem GoodP.tell {ep : Ep} {n : Int} (h : GoodP ep n) (hn : (ep.map (·.1)).Nodup) (h0 : 0 ≤ n) {kd k : Int} {v : ByteArray} (hk : InI64 k) : GoodP (tellPE ep n kd k v) n := by
  refine ⟨?_, fun x hx => ?_, fun x hx => ?_⟩
  · have h1 := (h.good.tell (nodupP h.ks hn) h0 (kd := kd) (k := dkey k) (v := v) (by have := dkey_size k; omega)).len
    rwa [tellP_toE h.ks hk, List.length_map] at h1
  · rcases tellPE_mem hx with rfl | h1
    · exact hk
    · exact h.ks x h1
  · rcases tellPE_mem hx with rfl | h1
    · rfl
    · exact h.vs x h1
end Go.Proofs.Ytfkdmbiejledoaa
