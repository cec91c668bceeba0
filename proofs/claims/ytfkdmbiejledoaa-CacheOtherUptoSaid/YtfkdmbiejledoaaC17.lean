/-
  The cache of pairs as an object: what its calls answer.
-/
import Derived.Test.YtfkdmbiejledoaaC18
import Derived.Test.YtfkdmbiejledoaaP2
import Derived.Maps.Keyed
set_option linter.unusedVariables false
set_option linter.unusedSimpArgs false
namespace Go.Proofs.Ytfkdmbiejledoaa
open Go.RowKit


theorem key_okP (k : Int) (h : InI64 k) : keyOf Try.prog 3 (IP.kv k) = some (IP.kl k) := Go.Maps.keyOf_int_mk Try.underlying3 (by unfold InI64 at h; simp [Lit.wf, IntKind.min, IntKind.max, IntKind.signed, IntKind.bits]; omega)
theorem cfp_frontP {c m h b : Nat} {k : Int} {v v2 : ByteArray × Int} {xs ys : List (Nat × Int × (ByteArray × Int))} {i : Nat} (hi : CFp c m h ((b, k, v2) :: (xs ++ ys)) i) : CFp c m h (xs ++ (b, k, v) :: ys) i := by
  rcases hi with h1 | h1 | h1
  · exact .inl h1
  · exact .inr (.inl h1)
  · refine .inr (.inr ?_)
    simp only [List.map_cons, List.map_append, List.mem_cons, List.mem_append] at h1 ⊢
    rcases h1 with h1 | h1 | h1 | h1
    · exact .inl h1
    · exact .inr (.inr (.inl h1))
    · exact .inr (.inl h1)
    · exact .inr (.inr (.inr h1))
theorem cfp_outP {c m h b : Nat} {k : Int} {v : ByteArray × Int} {xs ys : List (Nat × Int × (ByteArray × Int))} {i : Nat} (hi : CFp c m h (xs ++ ys) i) : CFp c m h (xs ++ (b, k, v) :: ys) i := by
  rcases hi with h1 | h1 | h1
  · exact .inl h1
  · exact .inr (.inl h1)
  · refine .inr (.inr ?_)
    simp only [List.map_cons, List.map_append, List.mem_cons, List.mem_append] at h1 ⊢
    rcases h1 with h1 | h1 | h1
    · exact .inl h1
    · exact .inr (.inl h1)
    · exact .inr (.inr (.inr h1))
theorem rem_frontP {L xs ys : List (Nat × Int × (ByteArray × Int))} {b : Nat} {k : Int} {v : ByteArray × Int} (h : ((xs ++ (b, k, v) :: ys).map (·.2.1)).Nodup) : (xs ++ ys).map (fun x : Nat × Int × (ByteArray × Int) => x.2) = rem ((xs ++ (b, k, v) :: ys).map (·.2)) k := by
  have e : (xs ++ (b, k, v) :: ys).map (fun x : Nat × Int × (ByteArray × Int) => x.2) = xs.map (·.2) ++ (k, v) :: ys.map (·.2) := by simp
  rw [e, rem_mid, List.map_append]
  rw [← keys_es, e] at h
  exact h
section
variable {w : World} {c : Nat} {most hits misses gone : Int} {es : List (Int × (ByteArray × Int))} {fp : Nat → Prop}
theorem getOP (k : Int) (H : CObj IP w c most es hits misses gone fp) (hk : InI64 k) (h1 : -1000000000 ≤ hits ∧ hits ≤ 1000000000) (h2 : -1000000000 ≤ misses ∧ misses ≤ 1000000000) :
    Calls Try.prog 44 #[ptr c, .int .i64 k] w fun r w' => r = .returned (.tuple #[pv ((findV es k).getD (⟨#[]⟩, 0)), .bool (findV es k).isSome]) ∧
      ∃ fp', CObj IP w' c most (getPE es k) (hits + one (findV es k).isSome) (misses + one (!(findV es k).isSome)) gone fp' ∧ Turn fp w w' ∧ ∀ b, fp' b → fp b ∨ w.heap.size ≤ b := by
  obtain ⟨m, h, L, hr, hL, hf⟩ := H
  cases hv : findV es k with
  | none =>
    have hn := findV_none hv
    rw [← hL, keys_es] at hn
    refine (getP_no c m h most hits misses gone k L w hr (key_okP k hk) hn h2).mono ?_
    rintro r w' ⟨rfl, q1, q2⟩
    refine ⟨rfl, fp, ⟨m, h, L, ?_, by unfold getPE; rw [hv]; exact hL, hf⟩, Turn.cfp hf q2, fun b hb => .inl hb⟩
    show CRep IP w' c m h most L (hits + 0) (misses + 1) gone
    rw [Int.add_zero]; exact q1
  | some v =>
    obtain ⟨xs, ys, e1, e2⟩ := findV_some hv
    obtain ⟨b, xs', ys', rfl, rfl, rfl⟩ := split_mid (hL.trans e1)
    refine (getP_yes c m h b most hits misses gone k v xs' ys' w hr (key_okP k hk) h1).mono ?_
    rintro r w' ⟨rfl, q1, q2⟩
    refine ⟨rfl, CFp c m h ((b, k, v) :: (xs' ++ ys')), ⟨m, h, _, ?_, ?_, fun _ => Iff.rfl⟩, Turn.cfp hf q2, fun i hi => .inl ((hf i).2 (cfp_frontP hi))⟩
    · show CRep IP w' c m h most _ (hits + 1) (misses + 0) gone
      rw [Int.add_zero]; exact q1
    · unfold getPE
      rw [hv, List.map_cons, ← hL, ← rem_frontP (L := []) hr.keys]
theorem peekOP (k : Int) (H : CObj IP w c most es hits misses gone fp) (hk : InI64 k) :
    Calls Try.prog 45 #[ptr c, .int .i64 k] w fun r w' => r = .returned (.tuple #[pv ((findV es k).getD (⟨#[]⟩, 0)), .bool (findV es k).isSome]) ∧ Below w.heap.size w w' := by
  obtain ⟨m, h, L, hr, hL, hf⟩ := H
  cases hv : findV es k with
  | none =>
    have hn := findV_none hv
    rw [← hL, keys_es] at hn
    refine (peekP_no c m h most hits misses gone k L w hr (key_okP k hk) hn).mono ?_
    rintro r w' ⟨rfl, q1⟩
    exact ⟨rfl, q1⟩
  | some v =>
    obtain ⟨xs, ys, e1, e2⟩ := findV_some hv
    obtain ⟨b, xs', ys', rfl, rfl, rfl⟩ := split_mid (hL.trans e1)
    refine (peekP_yes c m h b most hits misses gone k v xs' ys' w hr (key_okP k hk)).mono ?_
    rintro r w' ⟨rfl, q1⟩
    exact ⟨rfl, q1⟩
theorem dropOP (k : Int) (H : CObj IP w c most es hits misses gone fp) (hk : InI64 k) :
    Calls Try.prog 47 #[ptr c, .int .i64 k] w fun r w' => r = .returned (.bool (findV es k).isSome) ∧
      ∃ fp', CObj IP w' c most (rem es k) hits misses gone fp' ∧ Turn fp w w' ∧ ∀ b, fp' b → fp b ∨ w.heap.size ≤ b := by
  obtain ⟨m, h, L, hr, hL, hf⟩ := H
  cases hv : findV es k with
  | none =>
    have hn := findV_none hv
    have hn2 := hn
    rw [← hL, keys_es] at hn2
    refine (dropP_no c m h most hits misses gone k L w hr (key_okP k hk) hn2).mono ?_
    rintro r w' ⟨rfl, rfl⟩
    exact ⟨rfl, fp, ⟨m, h, L, hr, by rw [rem_notin hn]; exact hL, hf⟩, Turn.refl _ _, fun b hb => .inl hb⟩
  | some v =>
    obtain ⟨xs, ys, e1, e2⟩ := findV_some hv
    obtain ⟨b, xs', ys', rfl, rfl, rfl⟩ := split_mid (hL.trans e1)
    refine (dropP_yes c m h b most hits misses gone k v xs' ys' w hr (key_okP k hk)).mono ?_
    rintro r w' ⟨rfl, q1, q2, q3⟩
    refine ⟨rfl, CFp c m h (xs' ++ ys'), ⟨m, h, _, q1, ?_, fun _ => Iff.rfl⟩, Turn.cfp hf q2, fun i hi => .inl ((hf i).2 (cfp_outP hi))⟩
    rw [← hL]; exact rem_frontP (L := []) hr.keys
theorem clearOP (H : CObj IP w c most es hits misses gone fp) :
    Calls Try.prog 48 #[ptr c] w fun r w' => r = .returned (.tuple #[]) ∧ ∃ fp', CObj IP w' c most [] hits misses gone fp' ∧ Turn fp w w' ∧ ∀ b, fp' b → fp b ∨ w.heap.size ≤ b := by
  obtain ⟨m, h, L, hr, hL, hf⟩ := H
  refine (clearP_calls c m h most hits misses gone L w hr).mono ?_
  rintro r w' ⟨rfl, q1, q2⟩
  refine ⟨rfl, CFp c m h ([] : List (Nat × Int × (ByteArray × Int))), ⟨m, h, [], q1, rfl, fun _ => Iff.rfl⟩, Turn.cfp hf q2, fun i hi => .inl ((hf i).2 ?_)⟩
  rcases hi with h1 | h1 | h1
  · exact .inl h1
  · exact .inr (.inl h1)
  · rw [List.mem_singleton.1 h1]; exact .inr (.inr (by simp))
theorem lenOP (H : CObj IP w c most es hits misses gone fp) : Calls Try.prog 49 #[ptr c] w fun r w' => r = .returned (.int .i64 es.length) ∧ w = w' := by
  obtain ⟨m, h, L, hr, hL, hf⟩ := H
  rw [← hL, List.length_map]
  exact lenP_calls c m h most hits misses gone L w hr
theorem countsOP (H : CObj IP w c most es hits misses gone fp) : Calls Try.prog 51 #[ptr c] w fun r w' => r = .returned (.tuple #[.int .i64 hits, .int .i64 misses, .int .i64 gone]) ∧ Below w.heap.size w w' := by
  obtain ⟨m, h, L, hr, hL, hf⟩ := H
  refine (countsP_calls c m h most hits misses gone L w hr).mono ?_
  rintro r w' ⟨rfl, n, rfl⟩
  exact ⟨rfl, rfl, rfl, rfl, Nat.le_refl _, fun _ _ => rfl⟩
theorem keysOP (H : CObj IP w c most es hits misses gone fp) (hle : es.length ≤ 1000000) :
    Calls Try.prog 50 #[ptr c] w fun r w' => ∃ v, r = .returned v ∧ w'.ownsRow w.heap.size 3 1 v es.length ((es.map (·.1)).map (Value.int .i64)) ∧ Below w.heap.size w w' := by
  obtain ⟨m, h, L, hr, hL, hf⟩ := H
  have hl : es.length = L.length := by rw [← hL, List.length_map]
  rw [hl] at hle ⊢
  rw [show (es.map (·.1)).map (Value.int .i64) = L.map fun x => Value.int .i64 x.2.1 by rw [← hL, List.map_map, List.map_map]; rfl]
  exact keysP_calls c m h most hits misses gone L w hr hle
theorem newOP (most : Int) (h0 : 0 ≤ most) (h1 : most ≤ 4096) (w : World) :
    Calls Try.prog 29 #[.int .i64 most] w fun r w' => ∃ c fp, r = .returned (ptr c) ∧ CObj IP w' c most [] 0 0 0 fp ∧ (∀ b, fp b → w.heap.size ≤ b) ∧ Below w.heap.size w w' := by
  refine (newP_calls most h0 h1 w).mono ?_
  rintro r w' ⟨c, m, h, rfl, q1, q2, q3, q4, q5⟩
  refine ⟨c, CFp c m h ([] : List (Nat × Int × (ByteArray × Int))), rfl, ⟨m, h, [], q1, rfl, fun _ => Iff.rfl⟩, fun b hb => ?_, q5⟩
  rcases hb with h1 | h1 | h1
  · omega
  · omega
  · rw [List.mem_singleton.1 h1]; exact q3
theorem putOP (k : Int) (v : ByteArray × Int) (H : CObj IP w c most es hits misses gone fp) (hk : InI64 k) (hks : ∀ x ∈ es, InI64 x.1) (hm0 : 0 ≤ most) (hm : (es.length : Int) ≤ most) (hle : es.length ≤ 1000000) (h1 : -1000000000 ≤ gone ∧ gone ≤ 1000000000) :
    Calls Try.prog 46 #[ptr c, .int .i64 k, pv v] w fun r w' => r = .returned (.tuple #[.int .i64 (putPOut es most k).1, .bool (putPOut es most k).2]) ∧
      ∃ fp', CObj IP w' c most (putPE es most k v) hits misses (gone + one (putPOut es most k).2) fp' ∧ Turn fp w w' ∧ ∀ b, fp' b → fp b ∨ w.heap.size ≤ b := by
  obtain ⟨m, h, L, hr, hL, hf⟩ := H
  have hlen : L.length = es.length := by rw [← hL, List.length_map]
  unfold putPOut putPE
  cases hv : findV es k with
  | some v0 =>
    obtain ⟨xs, ys, e1, e2⟩ := findV_some hv
    obtain ⟨b, xs', ys', rfl, rfl, rfl⟩ := split_mid (hL.trans e1)
    simp only [Option.isSome_some, if_true]
    refine (putP_yes c m h b most hits misses gone k v0 xs' ys' w hr (key_okP k hk) v.1 v.2).mono ?_
    rintro r w' ⟨rfl, q1, q2⟩
    refine ⟨rfl, CFp c m h ((b, k, v) :: (xs' ++ ys')), ⟨m, h, _, ?_, ?_, fun _ => Iff.rfl⟩, Turn.cfp hf q2, fun i hi => .inl ((hf i).2 (cfp_frontP hi))⟩
    · show CRep IP w' c m h most _ hits misses (gone + 0)
      rw [Int.add_zero]; exact q1
    · rw [List.map_cons, ← hL, ← rem_frontP (L := []) hr.keys]
  | none =>
    have hn := findV_none hv
    have hn2 := hn
    rw [← hL, keys_es] at hn2
    simp only [Option.isSome_none, Bool.false_eq_true, if_false]
    by_cases hz : most = 0
    · subst hz
      simp only [if_true]
      refine (putP_zero c m h hits misses gone k L w hr (key_okP k hk) hn2 v.1 v.2 h1).mono ?_
      rintro r w' ⟨rfl, q1, q2⟩
      exact ⟨rfl, fp, ⟨m, h, L, q1, hL, hf⟩, Turn.cfp hf q2, fun b hb => .inl hb⟩
    · simp only [if_neg hz]
      by_cases hlt : (es.length : Int) < most
      · simp only [if_pos hlt]
        refine (putP_new c m h most hits misses gone k L w hr (key_okP k hk) hn2 v.1 v.2 (by rw [hlen]; exact hlt) (by omega)).mono ?_
        rintro r w' ⟨rfl, e, q1, q0, q2⟩
        refine ⟨rfl, CFp c m h ((e, k, v) :: L), ⟨m, h, _, ?_, by rw [List.map_cons, hL], fun _ => Iff.rfl⟩, Turn.cfp hf q2, fun i hi => ?_⟩
        · show CRep IP w' c m h most _ hits misses (gone + 0)
          rw [Int.add_zero]; exact q1
        · rcases hi with g1 | g1 | g1
          · exact .inl ((hf i).2 (.inl g1))
          · exact .inl ((hf i).2 (.inr (.inl g1)))
          · simp only [List.map_cons, List.mem_cons] at g1
            rcases g1 with g1 | g1 | g1
            · exact .inl ((hf i).2 (.inr (.inr (by rw [g1]; simp))))
            · exact .inr (by omega)
            · exact .inl ((hf i).2 (.inr (.inr (List.mem_cons_of_mem _ g1))))
      · simp only [if_neg hlt]
        have hne : es ≠ [] := by rintro rfl; simp at hlt; omega
        obtain ⟨es0, x0, hes⟩ : ∃ es0 x0, es = es0 ++ [x0] := ⟨es.dropLast, es.getLast hne, (List.dropLast_concat_getLast hne).symm⟩
        obtain ⟨k0, v0⟩ := x0
        obtain ⟨b0, xs', ys', rfl, q1, q2⟩ := split_mid (hL.trans hes)
        obtain rfl : ys' = [] := by simpa using q2
        have hlast : es.getLast? = some (k0, v0) := by rw [hes]; simp
        have hdl : es.dropLast = es0 := by rw [hes]; simp
        rw [hlast, hdl]
        refine (putP_full c m h b0 most hits misses gone k k0 v0 xs' w hr (key_okP k hk) (key_okP k0 (hks (k0, v0) (by rw [hes]; simp))) hn2 v.1 v.2 (by rw [hlen]; omega) (by simp at hlen; omega) h1).mono ?_
        rintro r w' ⟨rfl, e, q3, q4, q5⟩
        refine ⟨rfl, CFp c m h ((e, k, v) :: xs'), ⟨m, h, _, q3, by rw [List.map_cons, q1], fun _ => Iff.rfl⟩, Turn.cfp hf q5, fun i hi => ?_⟩
        rcases hi with g1 | g1 | g1
        · exact .inl ((hf i).2 (.inl g1))
        · exact .inl ((hf i).2 (.inr (.inl g1)))
        · simp only [List.map_cons, List.mem_cons] at g1
          rcases g1 with g1 | g1 | g1
          · exact .inl ((hf i).2 (.inr (.inr (by rw [g1]; simp))))
          · exact .inr (by omega)
          · exact .inl ((hf i).2 (.inr (.inr (List.mem_cons_of_mem _ (by rw [List.map_append]; exact List.mem_append_left _ g1)))))
end
end Go.Proofs.Ytfkdmbiejledoaa
