/-
  unlink and link of the entries.
-/
import Derived.Test.YtfkdmbiejledoaaProg
import Derived.Test.YtfkdmbiejledoaaG3
import Derived.Test.YtfkdmbiejledoaaReg
set_option linter.unusedVariables false
set_option linter.unusedSimpArgs false
namespace Go.Proofs.Ytfkdmbiejledoaa
open Go.RowKit

theorem bytes_ext {a b : ByteArray} (h : a.data.toList = b.data.toList) : a = b := by
  cases a; cases b
  simpa using h

noncomputable def IS : CK ByteArray ByteArray := ⟨Try.prog, 9, 67, 65, 4, 2, 3, Value.string, fun k => .string k.data.toList, fun v => [.string v]⟩
theorem okS : IS.Ok where
  hp := by show 2 < 4; decide
  hq := by show 3 < 4; decide
  hpq := by show 2 ≠ 3; decide
  p0 := by show 0 < 2; decide
  q0 := by show 0 < 3; decide
  vp := fun v => by show 2 - 1 < 2; decide
  vq := fun v => by show 2 - 1 < 3; decide
  ct := by show 67 ≠ 65; decide
  inj := fun a b h => by injection h with h; exact bytes_ext h
  key := Go.Maps.string_keyed Try.underlying9
set_option maxHeartbeats 2000000 in
theorem unlinkS_calls (e a c : Nat) (x y : Value) (w : World) (h2 : w.cell? ⟨e, 2, none⟩ = some (ptr a)) (h3 : w.cell? ⟨e, 3, none⟩ = some (ptr c)) (ha : w.cell? ⟨a, 3, none⟩ = some x) (hc : w.cell? ⟨c, 2, none⟩ = some y)
    (fa : w.frozen? ⟨a, 3, none⟩ = false) (fc : w.frozen? ⟨c, 2, none⟩ = false) (hea : e ≠ a) :
    Calls Try.prog 52 #[ptr e] w fun r w' => r = .returned (.tuple #[]) ∧ ∃ n, w' = ((w.setCell ⟨a, 3, none⟩ (ptr c)).setCell ⟨c, 2, none⟩ (ptr a)).drewN n := by
  unfold ptr at *
  go_enter Try.func52, Try.ntmps52
  go_wp2
  refine wp_region_ord (fun w' => w'.cell? ⟨e, 2, none⟩ = some (.pointer (some ⟨a, 0, none⟩)) ∧ w'.cell? ⟨e, 3, none⟩ = some (.pointer (some ⟨c, 0, none⟩))) [(0, false), (1, false), (2, false), (3, false), (4, false), (5, false), (6, false), (7, false), (8, false), (9, false), (10, true)] (by kernel_rfl) (by kernel_rfl) (fun _ _ d _ _ h => by cases d <;> exact h) ⟨h2, h3⟩ ?_
  iterate 10
    refine heldL ?_ ?_ (by rfl) (by rfl) (fun w' s1 => ?_) ?_ ?_
    rotate_left 2
    focus (obtain ⟨s1, s2⟩ := s1; go_simp; exact rfl)
    focus (go_simp; exact rfl)
  refine actL (by kernel_rfl) (by rfl) (by rfl) (fun K hK => ?_)
  go_wp2_with fail
  refine nilL ?_
  go_wp2
  refine wp_region_ord (fun w' => w'.cell? ⟨e, 2, none⟩ = some (.pointer (some ⟨a, 0, none⟩)) ∧ w'.cell? ⟨e, 3, none⟩ = some (.pointer (some ⟨c, 0, none⟩))) [(0, false), (1, false), (2, false), (3, false), (4, false), (5, false), (6, false), (7, false), (8, false), (9, false), (10, true)] (by kernel_rfl) (by kernel_rfl) (fun _ _ d _ _ h => by cases d <;> exact h) ⟨by go_simp, by go_simp⟩ ?_
  iterate 10
    refine heldL ?_ ?_ (by rfl) (by rfl) (fun w' s1 => ?_) ?_ ?_
    rotate_left 2
    focus (obtain ⟨s1, s2⟩ := s1; go_simp; exact rfl)
    focus (go_simp; exact rfl)
  refine actL (by kernel_rfl) (by rfl) (by rfl) (fun K hK => ?_)
  go_wp2_with fail
  refine nilL ?_
  go_end0
  exact ⟨rfl, 2, rfl⟩
theorem linkS_calls (e h f : Nat) (x2 x3 y : Value) (w : World) (e2 : w.cell? ⟨e, 2, none⟩ = some x2) (e3 : w.cell? ⟨e, 3, none⟩ = some x3) (h3 : w.cell? ⟨h, 3, none⟩ = some (ptr f)) (f2 : w.cell? ⟨f, 2, none⟩ = some y)
    (fe2 : w.frozen? ⟨e, 2, none⟩ = false) (fe3 : w.frozen? ⟨e, 3, none⟩ = false) (fh : w.frozen? ⟨h, 3, none⟩ = false) (ff : w.frozen? ⟨f, 2, none⟩ = false) (heh : e ≠ h) (hef : e ≠ f) :
    Calls Try.prog 35 #[ptr e, ptr h] w fun r w' => r = .returned (.tuple #[]) ∧ w' = (((w.setCell ⟨e, 2, none⟩ (ptr h)).setCell ⟨e, 3, none⟩ (ptr f)).setCell ⟨f, 2, none⟩ (ptr e)).setCell ⟨h, 3, none⟩ (ptr e) := by
  unfold ptr at *
  go_enter Try.func35, Try.ntmps35
  go_wp2
  go_end0
  exact ⟨rfl, rfl⟩
theorem unlinkRS (h e : Nat) (xs ys : List Nat) (w : World) (hr : Ring 65 4 2 3 w h (xs ++ e :: ys)) :
    Calls Try.prog 52 #[ptr e] w fun r w' => r = .returned (.tuple #[]) ∧ Ring 65 4 2 3 w' h (xs ++ ys) ∧ RTurn 65 4 2 3 (fun b => b ∈ h :: (xs ++ ys)) w w' := by
  obtain ⟨l1, l2, n1, n2, ne, h1, h2, hout⟩ := hr.unlinked (by decide) (by decide) (by decide)
  refine (unlinkS_calls e _ _ _ _ w l1.2 l2.1 l1.1 l2.2 n1.free n2.free h1).mono ?_
  rintro r w' ⟨rfl, k, rfl⟩
  exact ⟨rfl, hout k⟩
theorem linkRS (h e : Nat) (bs : List Nat) (w : World) (hr : Ring 65 4 2 3 w h bs) (he : Node 65 4 w e) (hne : e ∉ h :: bs) :
    Calls Try.prog 35 #[ptr e, ptr h] w fun r w' => r = .returned (.tuple #[]) ∧ Ring 65 4 2 3 w' h (e :: bs) ∧ RTurn 65 4 2 3 (fun b => b ∈ e :: h :: bs) w w' := by
  obtain ⟨l, nf, nh, h1, h2, hout⟩ := hr.linked (by decide) (by decide) (by decide) he hne
  obtain ⟨x2, hx2⟩ := he.cell (o := 2) (by decide)
  obtain ⟨x3, hx3⟩ := he.cell (o := 3) (by decide)
  refine (linkS_calls e h _ _ _ _ w hx2 hx3 l.1 l.2 he.free he.free nh.free nf.free h1 h2).mono ?_
  rintro r w' ⟨rfl, rfl⟩
  exact ⟨rfl, hout⟩
theorem mid_out {α : Type} {xs ys : List α} {e : α} (h : (xs ++ e :: ys).Nodup) : e ∉ xs ++ ys := by
  have h2 := (List.perm_middle.nodup_iff).1 h
  exact (List.nodup_cons.1 h2).1

noncomputable def IP : CK Int (ByteArray × Int) := ⟨Try.prog, 3, 97, 95, 5, 3, 4, Value.int .i64, .int .i64, fun v => [.string v.1, .int .i64 v.2]⟩
theorem okP : IP.Ok where
  hp := by show 3 < 5; decide
  hq := by show 4 < 5; decide
  hpq := by show 3 ≠ 4; decide
  p0 := by show 0 < 3; decide
  q0 := by show 0 < 4; decide
  vp := fun v => by show 3 - 1 < 3; decide
  vq := fun v => by show 3 - 1 < 4; decide
  ct := by show 97 ≠ 95; decide
  inj := fun a b h => by injection h
  key := Go.Maps.int_keyed Try.underlying3
set_option maxHeartbeats 2000000 in
theorem unlinkP_calls (e a c : Nat) (x y : Value) (w : World) (h2 : w.cell? ⟨e, 3, none⟩ = some (ptr a)) (h3 : w.cell? ⟨e, 4, none⟩ = some (ptr c)) (ha : w.cell? ⟨a, 4, none⟩ = some x) (hc : w.cell? ⟨c, 3, none⟩ = some y)
    (fa : w.frozen? ⟨a, 4, none⟩ = false) (fc : w.frozen? ⟨c, 3, none⟩ = false) (hea : e ≠ a) :
    Calls Try.prog 59 #[ptr e] w fun r w' => r = .returned (.tuple #[]) ∧ ∃ n, w' = ((w.setCell ⟨a, 4, none⟩ (ptr c)).setCell ⟨c, 3, none⟩ (ptr a)).drewN n := by
  unfold ptr at *
  go_enter Try.func59, Try.ntmps59
  go_wp2
  refine wp_region_ord (fun w' => w'.cell? ⟨e, 3, none⟩ = some (.pointer (some ⟨a, 0, none⟩)) ∧ w'.cell? ⟨e, 4, none⟩ = some (.pointer (some ⟨c, 0, none⟩))) [(0, false), (1, false), (2, false), (3, false), (4, false), (5, false), (6, false), (7, false), (8, false), (9, false), (10, true)] (by kernel_rfl) (by kernel_rfl) (fun _ _ d _ _ h => by cases d <;> exact h) ⟨h2, h3⟩ ?_
  iterate 10
    refine heldL ?_ ?_ (by rfl) (by rfl) (fun w' s1 => ?_) ?_ ?_
    rotate_left 2
    focus (obtain ⟨s1, s2⟩ := s1; go_simp; exact rfl)
    focus (go_simp; exact rfl)
  refine actL (by kernel_rfl) (by rfl) (by rfl) (fun K hK => ?_)
  go_wp2_with fail
  refine nilL ?_
  go_wp2
  refine wp_region_ord (fun w' => w'.cell? ⟨e, 3, none⟩ = some (.pointer (some ⟨a, 0, none⟩)) ∧ w'.cell? ⟨e, 4, none⟩ = some (.pointer (some ⟨c, 0, none⟩))) [(0, false), (1, false), (2, false), (3, false), (4, false), (5, false), (6, false), (7, false), (8, false), (9, false), (10, true)] (by kernel_rfl) (by kernel_rfl) (fun _ _ d _ _ h => by cases d <;> exact h) ⟨by go_simp, by go_simp⟩ ?_
  iterate 10
    refine heldL ?_ ?_ (by rfl) (by rfl) (fun w' s1 => ?_) ?_ ?_
    rotate_left 2
    focus (obtain ⟨s1, s2⟩ := s1; go_simp; exact rfl)
    focus (go_simp; exact rfl)
  refine actL (by kernel_rfl) (by rfl) (by rfl) (fun K hK => ?_)
  go_wp2_with fail
  refine nilL ?_
  go_end0
  exact ⟨rfl, 2, rfl⟩
theorem linkP_calls (e h f : Nat) (x2 x3 y : Value) (w : World) (e2 : w.cell? ⟨e, 3, none⟩ = some x2) (e3 : w.cell? ⟨e, 4, none⟩ = some x3) (h3 : w.cell? ⟨h, 4, none⟩ = some (ptr f)) (f2 : w.cell? ⟨f, 3, none⟩ = some y)
    (fe2 : w.frozen? ⟨e, 3, none⟩ = false) (fe3 : w.frozen? ⟨e, 4, none⟩ = false) (fh : w.frozen? ⟨h, 4, none⟩ = false) (ff : w.frozen? ⟨f, 3, none⟩ = false) (heh : e ≠ h) (hef : e ≠ f) :
    Calls Try.prog 58 #[ptr e, ptr h] w fun r w' => r = .returned (.tuple #[]) ∧ w' = (((w.setCell ⟨e, 3, none⟩ (ptr h)).setCell ⟨e, 4, none⟩ (ptr f)).setCell ⟨f, 3, none⟩ (ptr e)).setCell ⟨h, 4, none⟩ (ptr e) := by
  unfold ptr at *
  go_enter Try.func58, Try.ntmps58
  go_wp2
  go_end0
  exact ⟨rfl, rfl⟩
theorem unlinkRP (h e : Nat) (xs ys : List Nat) (w : World) (hr : Ring 95 5 3 4 w h (xs ++ e :: ys)) :
    Calls Try.prog 59 #[ptr e] w fun r w' => r = .returned (.tuple #[]) ∧ Ring 95 5 3 4 w' h (xs ++ ys) ∧ RTurn 95 5 3 4 (fun b => b ∈ h :: (xs ++ ys)) w w' := by
  obtain ⟨l1, l2, n1, n2, ne, h1, h2, hout⟩ := hr.unlinked (by decide) (by decide) (by decide)
  refine (unlinkP_calls e _ _ _ _ w l1.2 l2.1 l1.1 l2.2 n1.free n2.free h1).mono ?_
  rintro r w' ⟨rfl, k, rfl⟩
  exact ⟨rfl, hout k⟩
theorem linkRP (h e : Nat) (bs : List Nat) (w : World) (hr : Ring 95 5 3 4 w h bs) (he : Node 95 5 w e) (hne : e ∉ h :: bs) :
    Calls Try.prog 58 #[ptr e, ptr h] w fun r w' => r = .returned (.tuple #[]) ∧ Ring 95 5 3 4 w' h (e :: bs) ∧ RTurn 95 5 3 4 (fun b => b ∈ e :: h :: bs) w w' := by
  obtain ⟨l, nf, nh, h1, h2, hout⟩ := hr.linked (by decide) (by decide) (by decide) he hne
  obtain ⟨x2, hx2⟩ := he.cell (o := 3) (by decide)
  obtain ⟨x3, hx3⟩ := he.cell (o := 4) (by decide)
  refine (linkP_calls e h _ _ _ _ w hx2 hx3 l.1 l.2 he.free he.free nh.free nf.free h1 h2).mono ?_
  rintro r w' ⟨rfl, rfl⟩
  exact ⟨rfl, hout⟩
end Go.Proofs.Ytfkdmbiejledoaa
