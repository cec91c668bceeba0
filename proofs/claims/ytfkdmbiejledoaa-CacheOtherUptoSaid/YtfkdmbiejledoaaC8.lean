/-
  The cache of texts as an object: what its calls answer.
-/
import Derived.Test.YtfkdmbiejledoaaC6
import Derived.Test.YtfkdmbiejledoaaC4
import Derived.Test.YtfkdmbiejledoaaG4
set_option linter.unusedVariables false
set_option linter.unusedSimpArgs false
namespace Go.Proofs.Ytfkdmbiejledoaa
open Go.RowKit


theorem Turn.cfp {κ ν : Type} {w w' : World} {c m h : Nat} {L : List (Nat × κ × ν)} {fp : Nat → Prop} (hf : ∀ b, fp b ↔ CFp c m h L b) (ht : Turn (CFp c m h L) w w') : Turn fp w w' :=
  ht.mono fun i hi => .inl ((hf i).2 hi)
theorem key_ok (k : ByteArray) (h : k.size ≤ maxLen) : keyOf Try.prog 9 (IS.kv k) = some (IS.kl k) := Go.WideMaps.keyOf_string_mk Try.underlying9 h
def getE (es : List (ByteArray × ByteArray)) (k : ByteArray) : List (ByteArray × ByteArray) := match findV es k with
  | some v => (k, v) :: rem es k
  | none => es
def one (b : Bool) : Int := if b then 1 else 0
theorem one_le (b : Bool) : 0 ≤ one b ∧ one b ≤ 1 := by cases b <;> decide
theorem cfp_front {c m h b : Nat} {k v v2 : ByteArray} {xs ys : List (Nat × ByteArray × ByteArray)} {i : Nat} (hi : CFp c m h ((b, k, v2) :: (xs ++ ys)) i) : CFp c m h (xs ++ (b, k, v) :: ys) i := by
  rcases hi with h1 | h1 | h1
  · exact .inl h1
  · exact .inr (.inl h1)
  · refine .inr (.inr ?_)
    simp only [List.map_cons, List.map_append, List.mem_cons, List.mem_append] at h1 ⊢
    rcases h1 with h1 | h1 | h1 | h1
    · exact .inl h1
    · exact .inr (.inr (.inl h1))
    · exact .inr (.inl h1)
    · exact .inr (.inr (.inr h1))
theorem cfp_out {c m h b : Nat} {k v : ByteArray} {xs ys : List (Nat × ByteArray × ByteArray)} {i : Nat} (hi : CFp c m h (xs ++ ys) i) : CFp c m h (xs ++ (b, k, v) :: ys) i := by
  rcases hi with h1 | h1 | h1
  · exact .inl h1
  · exact .inr (.inl h1)
  · refine .inr (.inr ?_)
    simp only [List.map_cons, List.map_append, List.mem_cons, List.mem_append] at h1 ⊢
    rcases h1 with h1 | h1 | h1
    · exact .inl h1
    · exact .inr (.inl h1)
    · exact .inr (.inr (.inr h1))
theorem rem_front {L xs ys : List (Nat × ByteArray × ByteArray)} {b : Nat} {k v : ByteArray} (h : ((xs ++ (b, k, v) :: ys).map (·.2.1)).Nodup) : (xs ++ ys).map (fun x : Nat × ByteArray × ByteArray => x.2) = rem ((xs ++ (b, k, v) :: ys).map (·.2)) k := by
  have e : (xs ++ (b, k, v) :: ys).map (fun x : Nat × ByteArray × ByteArray => x.2) = xs.map (·.2) ++ (k, v) :: ys.map (·.2) := by simp
  rw [e, rem_mid, List.map_append]
  rw [← keys_es, e] at h
  exact h
section
variable {w : World} {c : Nat} {most hits misses gone : Int} {es : List (ByteArray × ByteArray)} {fp : Nat → Prop}
theorem getO (k : ByteArray) (H : CObj IS w c most es hits misses gone fp) (hk : k.size ≤ maxLen) (h1 : -1000000000 ≤ hits ∧ hits ≤ 1000000000) (h2 : -1000000000 ≤ misses ∧ misses ≤ 1000000000) :
    Calls Try.prog 19 #[ptr c, .string k] w fun r w' => r = .returned (.tuple #[.string ((findV es k).getD ⟨#[]⟩), .bool (findV es k).isSome]) ∧
      ∃ fp', CObj IS w' c most (getE es k) (hits + one (findV es k).isSome) (misses + one (!(findV es k).isSome)) gone fp' ∧ Turn fp w w' ∧ ∀ b, fp' b → fp b ∨ w.heap.size ≤ b := by
  obtain ⟨m, h, L, hr, hL, hf⟩ := H
  cases hv : findV es k with
  | none =>
    have hn := findV_none hv
    rw [← hL, keys_es] at hn
    refine (getS_no c m h most hits misses gone k L w hr (key_ok k hk) hn h2).mono ?_
    rintro r w' ⟨rfl, q1, q2⟩
    refine ⟨rfl, fp, ⟨m, h, L, ?_, by unfold getE; rw [hv]; exact hL, hf⟩, Turn.cfp hf q2, fun b hb => .inl hb⟩
    show CRep IS w' c m h most L (hits + 0) (misses + 1) gone
    rw [Int.add_zero]; exact q1
  | some v =>
    obtain ⟨xs, ys, e1, e2⟩ := findV_some hv
    obtain ⟨b, xs', ys', rfl, rfl, rfl⟩ := split_mid (hL.trans e1)
    refine (getS_yes c m h b most hits misses gone k v xs' ys' w hr (key_ok k hk) h1).mono ?_
    rintro r w' ⟨rfl, q1, q2, q3⟩
    refine ⟨rfl, CFp c m h ((b, k, v) :: (xs' ++ ys')), ⟨m, h, _, ?_, ?_, fun _ => Iff.rfl⟩, Turn.cfp hf q2, fun i hi => .inl ((hf i).2 (cfp_front hi))⟩
    · show CRep IS w' c m h most _ (hits + 1) (misses + 0) gone
      rw [Int.add_zero]; exact q1
    · unfold getE
      rw [hv, List.map_cons, ← hL, ← rem_front (L := []) hr.keys]
theorem peekO (k : ByteArray) (H : CObj IS w c most es hits misses gone fp) (hk : k.size ≤ maxLen) :
    Calls Try.prog 18 #[ptr c, .string k] w fun r w' => r = .returned (.tuple #[.string ((findV es k).getD ⟨#[]⟩), .bool (findV es k).isSome]) ∧ Below w.heap.size w w' := by
  obtain ⟨m, h, L, hr, hL, hf⟩ := H
  cases hv : findV es k with
  | none =>
    have hn := findV_none hv
    rw [← hL, keys_es] at hn
    refine (peekS_no c m h most hits misses gone k L w hr (key_ok k hk) hn).mono ?_
    rintro r w' ⟨rfl, q1⟩
    exact ⟨rfl, q1⟩
  | some v =>
    obtain ⟨xs, ys, e1, e2⟩ := findV_some hv
    obtain ⟨b, xs', ys', rfl, rfl, rfl⟩ := split_mid (hL.trans e1)
    refine (peekS_yes c m h b most hits misses gone k v xs' ys' w hr (key_ok k hk)).mono ?_
    rintro r w' ⟨rfl, rfl⟩
    exact ⟨rfl, Below.refl _ _⟩
theorem dropO (k : ByteArray) (H : CObj IS w c most es hits misses gone fp) (hk : k.size ≤ maxLen) :
    Calls Try.prog 23 #[ptr c, .string k] w fun r w' => r = .returned (.bool (findV es k).isSome) ∧
      ∃ fp', CObj IS w' c most (rem es k) hits misses gone fp' ∧ Turn fp w w' ∧ ∀ b, fp' b → fp b ∨ w.heap.size ≤ b := by
  obtain ⟨m, h, L, hr, hL, hf⟩ := H
  cases hv : findV es k with
  | none =>
    have hn := findV_none hv
    have hn2 := hn
    rw [← hL, keys_es] at hn2
    refine (dropS_no c m h most hits misses gone k L w hr (key_ok k hk) hn2).mono ?_
    rintro r w' ⟨rfl, rfl⟩
    exact ⟨rfl, fp, ⟨m, h, L, hr, by rw [rem_notin hn]; exact hL, hf⟩, Turn.refl _ _, fun b hb => .inl hb⟩
  | some v =>
    obtain ⟨xs, ys, e1, e2⟩ := findV_some hv
    obtain ⟨b, xs', ys', rfl, rfl, rfl⟩ := split_mid (hL.trans e1)
    refine (dropS_yes c m h b most hits misses gone k v xs' ys' w hr (key_ok k hk)).mono ?_
    rintro r w' ⟨rfl, q1, q2, q3⟩
    refine ⟨rfl, CFp c m h (xs' ++ ys'), ⟨m, h, _, q1, ?_, fun _ => Iff.rfl⟩, Turn.cfp hf q2, fun i hi => .inl ((hf i).2 (cfp_out hi))⟩
    rw [← hL]; exact rem_front (L := []) hr.keys
theorem clearO (H : CObj IS w c most es hits misses gone fp) :
    Calls Try.prog 25 #[ptr c] w fun r w' => r = .returned (.tuple #[]) ∧ ∃ fp', CObj IS w' c most [] hits misses gone fp' ∧ Turn fp w w' ∧ ∀ b, fp' b → fp b ∨ w.heap.size ≤ b := by
  obtain ⟨m, h, L, hr, hL, hf⟩ := H
  refine (clearS_calls c m h most hits misses gone L w hr).mono ?_
  rintro r w' ⟨rfl, q1, q2⟩
  refine ⟨rfl, CFp c m h ([] : List (Nat × ByteArray × ByteArray)), ⟨m, h, [], q1, rfl, fun _ => Iff.rfl⟩, Turn.cfp hf q2, fun i hi => .inl ((hf i).2 ?_)⟩
  rcases hi with h1 | h1 | h1
  · exact .inl h1
  · exact .inr (.inl h1)
  · rw [List.mem_singleton.1 h1]; exact .inr (.inr (by simp))
theorem lenO (H : CObj IS w c most es hits misses gone fp) : Calls Try.prog 22 #[ptr c] w fun r w' => r = .returned (.int .i64 es.length) ∧ w = w' := by
  obtain ⟨m, h, L, hr, hL, hf⟩ := H
  rw [← hL, List.length_map]
  exact lenS_calls c m h most hits misses gone L w hr
theorem countsO (H : CObj IS w c most es hits misses gone fp) : Calls Try.prog 26 #[ptr c] w fun r w' => r = .returned (.tuple #[.int .i64 hits, .int .i64 misses, .int .i64 gone]) ∧ Below w.heap.size w w' := by
  obtain ⟨m, h, L, hr, hL, hf⟩ := H
  refine (countsS_calls c m h most hits misses gone L w hr).mono ?_
  rintro r w' ⟨rfl, n, rfl⟩
  exact ⟨rfl, rfl, rfl, rfl, Nat.le_refl _, fun _ _ => rfl⟩
theorem keysO (H : CObj IS w c most es hits misses gone fp) (hle : es.length ≤ 1000000) :
    Calls Try.prog 21 #[ptr c] w fun r w' => ∃ v, r = .returned v ∧ w'.ownsRow w.heap.size 9 1 v es.length ((es.map (·.1)).map Value.string) ∧ Below w.heap.size w w' := by
  obtain ⟨m, h, L, hr, hL, hf⟩ := H
  have hl : es.length = L.length := by rw [← hL, List.length_map]
  rw [hl] at hle ⊢
  rw [show (es.map (·.1)).map Value.string = L.map fun x => Value.string x.2.1 by rw [← hL, List.map_map, List.map_map]; rfl]
  exact keysS_calls c m h most hits misses gone L w hr hle
theorem newO (most : Int) (h0 : 0 ≤ most) (h1 : most ≤ 4096) (w : World) :
    Calls Try.prog 9 #[.int .i64 most] w fun r w' => ∃ c fp, r = .returned (ptr c) ∧ CObj IS w' c most [] 0 0 0 fp ∧ (∀ b, fp b → w.heap.size ≤ b) ∧ Below w.heap.size w w' := by
  refine (newS_calls most h0 h1 w).mono ?_
  rintro r w' ⟨c, m, h, rfl, q1, q2, q3, q4, q5⟩
  refine ⟨c, CFp c m h ([] : List (Nat × ByteArray × ByteArray)), rfl, ⟨m, h, [], q1, rfl, fun _ => Iff.rfl⟩, fun b hb => ?_, q5⟩
  rcases hb with h1 | h1 | h1
  · omega
  · omega
  · rw [List.mem_singleton.1 h1]; exact q3
def putOut (es : List (ByteArray × ByteArray)) (most : Int) (k : ByteArray) : ByteArray × Bool :=
  if (findV es k).isSome then (⟨#[]⟩, false) else if most = 0 then (k, true) else if (es.length : Int) < most then (⟨#[]⟩, false) else (((es.getLast?).map (·.1)).getD ⟨#[]⟩, true)
def putE (es : List (ByteArray × ByteArray)) (most : Int) (k v : ByteArray) : List (ByteArray × ByteArray) :=
  if (findV es k).isSome then (k, v) :: rem es k else if most = 0 then es else if (es.length : Int) < most then (k, v) :: es else (k, v) :: es.dropLast
theorem putO (k v : ByteArray) (H : CObj IS w c most es hits misses gone fp) (hk : k.size ≤ maxLen) (hks : ∀ x ∈ es, x.1.size ≤ maxLen) (hm0 : 0 ≤ most) (hm : (es.length : Int) ≤ most) (hle : es.length ≤ 1000000) (h1 : -1000000000 ≤ gone ∧ gone ≤ 1000000000) :
    Calls Try.prog 16 #[ptr c, .string k, .string v] w fun r w' => r = .returned (.tuple #[.string (putOut es most k).1, .bool (putOut es most k).2]) ∧
      ∃ fp', CObj IS w' c most (putE es most k v) hits misses (gone + one (putOut es most k).2) fp' ∧ Turn fp w w' ∧ ∀ b, fp' b → fp b ∨ w.heap.size ≤ b := by
  obtain ⟨m, h, L, hr, hL, hf⟩ := H
  have hlen : L.length = es.length := by rw [← hL, List.length_map]
  unfold putOut putE
  cases hv : findV es k with
  | some v0 =>
    obtain ⟨xs, ys, e1, e2⟩ := findV_some hv
    obtain ⟨b, xs', ys', rfl, rfl, rfl⟩ := split_mid (hL.trans e1)
    simp only [Option.isSome_some, if_true]
    refine (putS_yes c m h b most hits misses gone k v0 xs' ys' w hr (key_ok k hk) v).mono ?_
    rintro r w' ⟨rfl, q1, q2⟩
    refine ⟨rfl, CFp c m h ((b, k, v) :: (xs' ++ ys')), ⟨m, h, _, ?_, ?_, fun _ => Iff.rfl⟩, Turn.cfp hf q2, fun i hi => .inl ((hf i).2 (cfp_front hi))⟩
    · show CRep IS w' c m h most _ hits misses (gone + 0)
      rw [Int.add_zero]; exact q1
    · rw [List.map_cons, ← hL, ← rem_front (L := []) hr.keys]
  | none =>
    have hn := findV_none hv
    have hn2 := hn
    rw [← hL, keys_es] at hn2
    simp only [Option.isSome_none, Bool.false_eq_true, if_false]
    by_cases hz : most = 0
    · subst hz
      simp only [if_true]
      refine (putS_zero c m h hits misses gone k L w hr (key_ok k hk) hn2 v h1).mono ?_
      rintro r w' ⟨rfl, q1, q2⟩
      exact ⟨rfl, fp, ⟨m, h, L, q1, hL, hf⟩, Turn.cfp hf q2, fun b hb => .inl hb⟩
    · simp only [if_neg hz]
      by_cases hlt : (es.length : Int) < most
      · simp only [if_pos hlt]
        refine (putS_new c m h most hits misses gone k L w hr (key_ok k hk) hn2 v (by rw [hlen]; exact hlt) (by omega)).mono ?_
        rintro r w' ⟨rfl, q1, q2⟩
        refine ⟨rfl, CFp c m h ((w.heap.size, k, v) :: L), ⟨m, h, _, ?_, by rw [List.map_cons, hL], fun _ => Iff.rfl⟩, Turn.cfp hf q2, fun i hi => ?_⟩
        · show CRep IS w' c m h most _ hits misses (gone + 0)
          rw [Int.add_zero]; exact q1
        · rcases hi with g1 | g1 | g1
          · exact .inl ((hf i).2 (.inl g1))
          · exact .inl ((hf i).2 (.inr (.inl g1)))
          · simp only [List.map_cons, List.mem_cons] at g1
            rcases g1 with g1 | g1 | g1
            · exact .inl ((hf i).2 (.inr (.inr (by rw [g1]; simp))))
            · exact .inr (by omega)
            · exact .inl ((hf i).2 (.inr (.inr (List.mem_cons_of_mem _ g1))))
      · simp only [if_neg hlt]
        have hne : es ≠ [] := by rintro rfl; simp at hlt; omega
        obtain ⟨es0, x0, hes⟩ : ∃ es0 x0, es = es0 ++ [x0] := ⟨es.dropLast, es.getLast hne, (List.dropLast_concat_getLast hne).symm⟩
        obtain ⟨k0, v0⟩ := x0
        obtain ⟨b0, xs', ys', rfl, q1, q2⟩ := split_mid (hL.trans hes)
        obtain rfl : ys' = [] := by simpa using q2
        have hlast : es.getLast? = some (k0, v0) := by rw [hes]; simp
        have hdl : es.dropLast = es0 := by rw [hes]; simp
        rw [hlast, hdl]
        refine (putS_full c m h b0 most hits misses gone k k0 v0 xs' w hr (key_ok k hk) (key_ok k0 (hks (k0, v0) (by rw [hes]; simp))) hn2 v (by rw [hlen]; omega) (by simp at hlen; omega) h1).mono ?_
        rintro r w' ⟨rfl, e, q3, q4, q5⟩
        refine ⟨rfl, CFp c m h ((e, k, v) :: xs'), ⟨m, h, _, q3, by rw [List.map_cons, q1], fun _ => Iff.rfl⟩, Turn.cfp hf q5, fun i hi => ?_⟩
        rcases hi with g1 | g1 | g1
        · exact .inl ((hf i).2 (.inl g1))
        · exact .inl ((hf i).2 (.inr (.inl g1)))
        · simp only [List.map_cons, List.mem_cons] at g1
          rcases g1 with g1 | g1 | g1
          · exact .inl ((hf i).2 (.inr (.inr (by rw [g1]; simp))))
          · exact .inr (by omega)
          · exact .inl ((hf i).2 (.inr (.inr (List.mem_cons_of_mem _ (by rw [List.map_append]; exact List.mem_append_left _ g1)))))
end
end Go.Proofs.Ytfkdmbiejledoaa
