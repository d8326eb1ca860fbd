/-
  For every format and sector the law LayoutMoves returns true and leaves its arguments as they were: no condition. (part 3 of 5)
-/
import Derived.Test.YtfbjoamdkieamaaGreatMvb
import Derived.Shelf.SlGeneric
import Derived.Shelf.Sort.Plain
import Derived.Ground.NamesProg
import Derived.Ground.Names2Prog
import Derived.Ground.SlsfProg
import Derived.Shelf.Slices.SearchI
import Derived.Shelf.Slices.Delete
import Derived.Shelf.SlSortCmp.WholeK
import Derived.Shelf.SlSortCmp.NoneTotal
import Derived.Shelf.Slices.In.SortNone
import Derived.Shelf.Slices.Empties
import Derived.Shelf.Spec.SlicesGrow
import Derived.Ground.Names8Prog
import Derived.Test.YtfbjoamdkieamaaGreatProg

section
set_option linter.unusedSimpArgs false
set_option linter.unusedVariables false
set_option maxHeartbeats 8000000
namespace Go.Proofs.YtfbjoamdkieamaaGreat.AM
open Go

theorem within3_spec (n lo hi : Int) : PSpec env 70 [.int .i64 n, .int .i64 lo, .int .i64 hi] (.bool (decide (lo ≤ n ∧ n ≤ hi))) := by
  refine Spec.intro (nt := _) (rs := [_]) Tryz.func70 rfl rfl rfl rfl rfl [] (fun _ h => absurd rfl h) fun X => ?_
  repeat' (first | refine GoC.seq ?_ | refine GoC.region rfl ?_ | refine GoC.ret ?_ | refine GoOps.nil ?_ | refine GoOps.a rfl ?_ | refine GoOps.u rfl rfl rfl rfl ?_ | refine GoOps.gs rfl rfl rfl rfl ?_ | (refine GoOps.sd rfl rfl ?_ ?_ <;> intro _ <;> try contradiction))
  all_goals (((try dsimp only [thenA, inBlockA]); refine FnPost.many (.inr rfl) (RetOK.hv rfl RetOK.nil) ?_; (try dsimp only [tup])); simp [*])

theorem In_spec (c : Bool) (l : List Int) (n : Int) : PSpec env 19 [.list c 1 (l.map (.int .i64)), .int .i64 n] (.bool (decide (n ∈ l))) := by
  refine Spec.intro (nt := _) (rs := [_]) Tryz.func19 rfl rfl rfl rfl rfl [] (fun _ h => absurd rfl h) fun X => ?_
  refine GoC.bnd 0 rfl fun hb => ?_
  repeat' (first | refine GoC.seq ?_ | refine GoC.block ?_ | refine GoC.region rfl ?_ | refine GoOps.nil ?_ | refine GoOps.a rfl ?_)
  refine GoC.loop (G := Nat) (fun i => ⟨ofL .junk [(0, .list c 1 (l.map (.int .i64))), (1, .int .i64 n), (5, .int .i64 i)], ofL .free [], []⟩) (fun i => i ≤ l.length ∧ ∀ j, j < i → l.getD j default ≠ n) (fun i => l.length - i) 0 ⟨Nat.zero_le _, fun j h => absurd h (Nat.not_lt_zero j)⟩ (by (refine AS.sub.mk' _ _ (lk []) rfl rfl ?_ ?_ <;> repeat' (first | exact True.intro | rfl | exact Wk.refl _ | refine And.intro ?_ ?_))) ?_
  rintro i ⟨hi, hz⟩ R hR
  repeat' (first | refine GoC.seq ?_ | refine GoC.block ?_ | refine GoC.region rfl ?_ | refine GoC.skip ?_ | refine GoC.exit ?_ | refine GoC.ret ?_ | (refine GoC.cond_d rfl ?_ ?_ <;> intro _ <;> try contradiction) | refine GoOps.nil ?_ | refine GoOps.a rfl ?_ | refine GoOps.p (OpL.len rfl rfl) ?_ | refine GoOps.p (OpL.idx rfl rfl (by with_reducible exact rfl) rfl rfl rfl rfl (by (first | assumption | omega))) ?_ | refine GoOps.p (OpL.add rfl rfl (by (first | assumption | omega))) ?_)
  · ((try dsimp only [thenA, inBlockA]); refine FnPost.many (.inr rfl) (RetOK.hv rfl RetOK.nil) ?_; (try dsimp only [tup]))
    rw [decide_eq_true]
    have := mem_gd (l := l) (i := i) (by omega)
    rename_i h
    rwa [h] at this
  · refine hR (i + 1) _ ⟨by omega, fun j hj => ?_⟩ (by omega) (by (refine AS.sub.mk' _ _ (lk []) rfl rfl ?_ ?_ <;> repeat' (first | exact True.intro | rfl | exact Wk.refl _ | refine And.intro ?_ ?_)))
    by_cases h : j < i
    · exact hz j h
    · obtain rfl : j = i := by omega
      assumption
  · ((try dsimp only [thenA, inBlockA]); refine FnPost.many (.inr rfl) (RetOK.hv rfl RetOK.nil) ?_; (try dsimp only [tup]))
    rw [decide_eq_false]
    intro h
    obtain ⟨j, hj, he⟩ := List.mem_iff_getElem.1 h
    exact hz j (by omega) (by rw [gd hj]; exact he)

theorem AllEq3 {a b : Defect} : AllEq [(a.id, b.id), (a.stamp, b.stamp), (a.sector, b.sector)] ↔ a = b := by
  cases a; cases b; simp [AllEq]

abbrev nth (l : List Defect) (i : Nat) : Defect := l.getD i default
def clashP (l : List Defect) : Prop := ∃ i, i < l.length ∧ ∃ j, j < i ∧ (nth l i).id = (nth l j).id ∧ nth l i ≠ nth l j
instance (l : List Defect) : Decidable (clashP l) := by unfold clashP; infer_instance

theorem clash_spec (c : Bool) (l : List Defect) : PSpec env 52 [.list c 3 (l.map Defect.av)] (.bool (decide (clashP l))) := by
  refine Spec.intro (nt := _) (rs := [_]) Tryz.func52 rfl rfl rfl rfl rfl [] (fun _ h => absurd rfl h) fun X => ?_
  refine GoC.bnd 0 rfl fun hb => ?_
  repeat' (first | refine GoC.seq ?_ | refine GoC.block ?_ | refine GoC.region rfl ?_ | refine GoOps.nil ?_ | refine GoOps.a rfl ?_)
  refine GoC.loop (G := Nat) (fun i => ⟨ofL .junk [(0, .list c 3 (l.map Defect.av)), (3, .int .i64 i)], ofL .free [], []⟩) (fun i => i ≤ l.length ∧ ∀ i', i' < i → ∀ j, j < i' → (nth l i').id = (nth l j).id → nth l i' = nth l j) (fun i => l.length - i) 0 ⟨Nat.zero_le _, fun j h => absurd h (Nat.not_lt_zero j)⟩ (by (refine AS.sub.mk' _ _ (lk []) rfl rfl ?_ ?_ <;> repeat' (first | exact True.intro | rfl | exact Wk.refl _ | refine And.intro ?_ ?_))) ?_
  rintro i ⟨hi, hz⟩ R hR
  repeat' (first | refine GoC.seq ?_ | refine GoC.block ?_ | refine GoC.region rfl ?_ | refine GoC.skip ?_ | refine GoC.exit ?_ | refine GoC.ret ?_ | (refine GoC.cond_d rfl ?_ ?_ <;> intro _ <;> try contradiction) | refine GoOps.nil ?_ | refine GoOps.a rfl ?_ | refine GoOps.p (OpL.len rfl rfl) ?_)
  · refine GoC.loop (G := Nat) (fun j => ⟨ofL .junk [(0, .list c 3 (l.map Defect.av)), (3, .int .i64 i), (4, .int .i64 j)], ofL .free [], []⟩) (fun j => j ≤ i ∧ ∀ j', j' < j → (nth l i).id = (nth l j').id → nth l i = nth l j') (fun j => i - j) 0 ⟨Nat.zero_le _, fun j h => absurd h (Nat.not_lt_zero j)⟩ (by (refine AS.sub.mk' _ _ (lk []) rfl rfl ?_ ?_ <;> repeat' (first | exact True.intro | rfl | exact Wk.refl _ | refine And.intro ?_ ?_))) ?_
    rintro j ⟨hj, hz2⟩ R2 hR2
    repeat' (first | refine GoC.seq ?_ | refine GoC.block ?_ | refine GoC.region rfl ?_ | refine GoC.draw env_mixed ?_ | refine GoC.skip ?_ | refine GoC.exit ?_ | refine GoC.ret ?_ | refine GoC.cond_f rfl ?_ | (refine GoC.cond_d rfl ?_ ?_ <;> intro _ <;> try contradiction) | refine GoOps.nil ?_ | refine GoD.done rfl rfl (by kernel_rfl) ?_ | refine GoOps.a rfl ?_ | refine GoD.a rfl ?_ | refine GoD.ga rfl rfl rfl rfl rfl ?_ | refine GoD.gs rfl rfl rfl rfl ?_ | refine GoD.p (OpL.idx rfl rfl (by with_reducible exact rfl) rfl rfl rfl rfl (by (first | assumption | omega))) ?_ | refine GoD.gp rfl rfl rfl rfl (OpL.idx rfl rfl (by with_reducible exact rfl) rfl rfl rfl rfl (by (first | assumption | omega))) ?_ | refine GoOps.p (OpL.add rfl rfl (by (first | assumption | omega))) ?_ | refine GoD.gp rfl rfl rfl rfl (OpL.nes (ps := [(_, _), (_, _), (_, _)]) (env_eqs rfl) rfl rfl rfl rfl) ?_ | (refine GoD.sd rfl rfl ?_ ?_ <;> intro _ <;> try contradiction))
    · rename_i h1 h2 h3 h4
      ((try dsimp only [thenA, inBlockA]); refine FnPost.many (.inr rfl) (RetOK.hv rfl RetOK.nil) ?_; (try dsimp only [tup]))
      rw [decide_eq_true]
      exact ⟨i, by omega, j, by omega, h3, fun h => h4 (AllEq3.2 h)⟩
    · rename_i h1 h2 h3 h4
      refine hR2 (j + 1) _ ⟨by omega, fun j' hj' hid => ?_⟩ (by omega) (by (refine AS.sub.mk' _ _ (lk []) rfl rfl ?_ ?_ <;> repeat' (first | exact True.intro | rfl | exact Wk.refl _ | refine And.intro ?_ ?_)))
      by_cases h : j' < j
      · exact hz2 j' h hid
      · obtain rfl : j' = j := by omega
        exact AllEq3.1 (Decidable.of_not_not h4)
    · rename_i h1 h2 h3
      refine hR2 (j + 1) _ ⟨by omega, fun j' hj' hid => ?_⟩ (by omega) (by (refine AS.sub.mk' _ _ (lk []) rfl rfl ?_ ?_ <;> repeat' (first | exact True.intro | rfl | exact Wk.refl _ | refine And.intro ?_ ?_)))
      by_cases h : j' < j
      · exact hz2 j' h hid
      · obtain rfl : j' = j := by omega
        exact absurd hid h3
    · refine hR (i + 1) _ ⟨by omega, fun i' hi' j' hj' hid => ?_⟩ (by omega) (by (refine AS.sub.mk' _ _ (lk []) rfl rfl ?_ ?_ <;> repeat' (first | exact True.intro | rfl | exact Wk.refl _ | refine And.intro ?_ ?_)))
      by_cases h : i' < i
      · exact hz i' h j' hj' hid
      · obtain rfl : i' = i := by omega
        exact hz2 j' (by omega) hid
  · ((try dsimp only [thenA, inBlockA]); refine FnPost.many (.inr rfl) (RetOK.hv rfl RetOK.nil) ?_; (try dsimp only [tup]))
    rw [decide_eq_false]
    rintro ⟨i', h1, j', h2, h3, h4⟩
    exact h4 (hz i' (by omega) j' h2 h3)

def ascP (l : List Int) : Prop := ∀ i, i < l.length → 0 < i → l.getD (i - 1) default < l.getD i default
def formatP (f : Format) : Prop := (0 ≤ f.spares ∧ f.spares ≤ 20) ∧ f.primary.length ≤ 60 ∧ f.grown.length ≤ 30 ∧
  (∀ i, i < f.primary.length → (0 ≤ f.primary.getD i default ∧ f.primary.getD i default ≤ f.disk.count - 1) ∧ (0 < i → f.primary.getD (i - 1) default < f.primary.getD i default)) ∧
  (∀ i, i < f.grown.length → (0 ≤ (nth f.grown i).id ∧ (nth f.grown i).id ≤ 99) ∧ (0 ≤ (nth f.grown i).stamp ∧ (nth f.grown i).stamp ≤ 9999) ∧ 0 ≤ (nth f.grown i).sector ∧ (nth f.grown i).sector ≤ f.disk.count - 1)
instance (f : Format) : Decidable (formatP f) := by unfold formatP; infer_instance

theorem isFormat_spec (f : Format) (hd : f.disk.Good) : PSpec env 51 [f.av] (.bool (decide (formatP f))) := by
  refine Spec.intro (nt := _) (rs := [_]) Tryz.func51 rfl rfl rfl rfl rfl [] (fun _ h => absurd rfl h) fun X => ?_
  repeat' (first | refine GoC.seq ?_ | refine GoC.block ?_ | refine GoC.region rfl ?_ | refine GoC.skip ?_ | refine GoC.ret ?_ | refine GoC.cond_t rfl ?_ | (refine GoC.cond_d rfl ?_ ?_ <;> intro _ <;> try contradiction) | refine GoOps.nil ?_ | refine GoOps.a rfl ?_ | refine GoOps.u rfl rfl rfl rfl ?_ | refine GoOps.gs rfl rfl rfl rfl ?_ | refine GoOps.p (OpL.len rfl rfl) ?_ | refine GoOps.m (OpL.boxw (by rfl) rfl rfl rfl rfl) ?_ | refine GoOps.p (OpL.call rfl rfl (within3_spec _ _ _) rfl rfl) ?_ | (refine GoOps.sd rfl rfl ?_ ?_ <;> intro _ <;> try contradiction) | (refine GoOps.sn rfl rfl ?_ ?_ <;> intro _ <;> try contradiction))
  iterate 3 (· ((try dsimp only [thenA, inBlockA]); refine FnPost.many (.inr rfl) (RetOK.hv rfl RetOK.nil) ?_; (try dsimp only [tup])); rw [decide_eq_false]; rintro ⟨h1, h2, h3, _⟩; omega)
  refine GoC.loop (G := Nat) (fun i => ⟨ofL .junk [(1, .ptr 1 12 0 0), (3, .int .i64 i)], ofL .free [(1, .arr 30 12 [f.av])], []⟩) (fun i => i ≤ f.primary.length ∧ ∀ j, j < i → (0 ≤ f.primary.getD j default ∧ f.primary.getD j default ≤ f.disk.count - 1) ∧ (0 < j → f.primary.getD (j - 1) default < f.primary.getD j default)) (fun i => f.primary.length - i) 0 ⟨Nat.zero_le _, fun j h => absurd h (Nat.not_lt_zero j)⟩ (by (refine AS.sub.mk' _ _ (lk []) rfl rfl ?_ ?_ <;> repeat' (first | exact True.intro | rfl | exact Wk.refl _ | exact ⟨_, rfl, Elems.all rfl⟩ | refine And.intro ?_ ?_))) ?_
  rintro i ⟨hi, hz⟩ R hR
  repeat' (first | refine GoC.seq ?_ | refine GoC.block ?_ | refine GoC.region rfl ?_ | refine GoC.draw env_mixed ?_ | refine GoC.skip ?_ | refine GoC.exit ?_ | refine GoC.ret ?_ | refine GoC.cond_t rfl ?_ | refine GoC.cond_f rfl ?_ | (refine GoC.cond_d rfl ?_ ?_ <;> intro _ <;> try contradiction) | refine GoOps.nil ?_ | refine GoD.done rfl rfl (by kernel_rfl) ?_ | refine GoOps.a rfl ?_ | refine GoD.a rfl ?_ | refine GoD.ga rfl rfl rfl rfl rfl ?_ | refine GoD.gs rfl rfl rfl rfl ?_ | refine GoD.gj rfl rfl rfl ?_ | refine GoOps.p (OpL.len rfl rfl) ?_ | refine GoD.p (OpL.idx rfl rfl (by with_reducible exact rfl) rfl rfl rfl rfl (by (first | assumption | omega))) ?_ | refine GoD.gp rfl rfl rfl rfl (OpL.idx rfl rfl (by with_reducible exact rfl) rfl rfl rfl rfl (by (first | assumption | omega))) ?_ | refine GoD.gp rfl rfl rfl rfl (OpL.idxn rfl rfl rfl rfl rfl rfl (by (first | assumption | omega))) ?_ | refine GoOps.p (OpL.add rfl rfl (by (first | assumption | omega))) ?_ | refine GoD.gp rfl rfl rfl rfl (OpL.sub rfl rfl (by (first | assumption | omega))) ?_ | refine GoD.p (OpL.call rfl rfl (IsSector_spec f.disk hd _) rfl rfl) ?_ | (refine GoD.sd rfl rfl ?_ ?_ <;> intro _ <;> try contradiction) | (refine GoD.sn rfl rfl ?_ ?_ <;> intro _ <;> try contradiction))
  · rename_i h1 h2
    ((try dsimp only [thenA, inBlockA]); refine FnPost.many (.inr rfl) (RetOK.hv rfl RetOK.nil) ?_; (try dsimp only [tup]))
    rw [decide_eq_false]
    rintro ⟨_, _, _, h3, _⟩
    exact h2 (h3 i (by omega)).1
  · rename_i h1 h2 h3 h4
    ((try dsimp only [thenA, inBlockA]); refine FnPost.many (.inr rfl) (RetOK.hv rfl RetOK.nil) ?_; (try dsimp only [tup]))
    rw [decide_eq_false]
    rintro ⟨_, _, _, h5, _⟩
    have h6 := (h5 i (by omega)).2 (by omega)
    rw [show i - 1 = ((i : Int) - 1).toNat by omega] at h6
    omega
  · rename_i h1 h2 h3 h4
    refine hR (i + 1) _ ⟨by omega, fun j hj => ?_⟩ (by omega) (by (refine AS.sub.mk' _ _ (lk []) rfl rfl ?_ ?_ <;> repeat' (first | exact True.intro | rfl | exact Wk.refl _ | exact ⟨_, rfl, Elems.all rfl⟩ | refine And.intro ?_ ?_)))
    by_cases h : j < i
    · exact hz j h
    · obtain rfl : j = i := by omega
      refine ⟨h2, fun _ => ?_⟩
      rw [show ((j : Int) - 1).toNat = j - 1 by omega] at h4
      omega
  · rename_i h1 h2 h3
    refine hR (i + 1) _ ⟨by omega, fun j hj => ?_⟩ (by omega) (by (refine AS.sub.mk' _ _ (lk []) rfl rfl ?_ ?_ <;> repeat' (first | exact True.intro | rfl | exact Wk.refl _ | exact ⟨_, rfl, Elems.all rfl⟩ | refine And.intro ?_ ?_)))
    by_cases h : j < i
    · exact hz j h
    · obtain rfl : j = i := by omega
      exact ⟨h2, fun h => by omega⟩
  refine GoC.loop (G := Nat) (fun i => ⟨ofL .junk [(1, .ptr 1 12 0 0), (4, .int .i64 i)], ofL .free [(1, .arr 30 12 [f.av])], []⟩) (fun i => i ≤ f.grown.length ∧ ∀ j, j < i → (0 ≤ (nth f.grown j).id ∧ (nth f.grown j).id ≤ 99) ∧ (0 ≤ (nth f.grown j).stamp ∧ (nth f.grown j).stamp ≤ 9999) ∧ 0 ≤ (nth f.grown j).sector ∧ (nth f.grown j).sector ≤ f.disk.count - 1) (fun i => f.grown.length - i) 0 ⟨Nat.zero_le _, fun j h => absurd h (Nat.not_lt_zero j)⟩ (by (refine AS.sub.mk' _ _ (lk []) rfl rfl ?_ ?_ <;> repeat' (first | exact True.intro | rfl | exact Wk.refl _ | exact ⟨_, rfl, Elems.all rfl⟩ | refine And.intro ?_ ?_))) ?_
  rintro i2 ⟨hi2, hz2⟩ R2 hR2
  repeat' (first | refine GoC.seq ?_ | refine GoC.block ?_ | refine GoC.region rfl ?_ | refine GoC.skip ?_ | refine GoC.exit ?_ | refine GoC.ret ?_ | refine GoC.cond_t rfl ?_ | (refine GoC.cond_d rfl ?_ ?_ <;> intro _ <;> try contradiction) | (refine GoC.cond_n rfl ?_ ?_ <;> intro _ <;> try contradiction) | refine GoOps.nil ?_ | refine GoOps.a rfl ?_ | refine GoOps.u rfl rfl rfl rfl ?_ | refine GoOps.gs rfl rfl rfl rfl ?_ | refine GoOps.b rfl ?_ | refine GoOps.p (OpL.len rfl rfl) ?_ | refine GoOps.p (OpL.idx rfl rfl (by with_reducible exact rfl) rfl rfl rfl rfl (by (first | assumption | omega))) ?_ | refine GoOps.p (OpL.add rfl rfl (by (first | assumption | omega))) ?_ | refine GoOps.n (OpL.st1 rfl) ?_ | refine GoOps.p (OpL.call rfl rfl (IsSector_spec f.disk hd _) rfl rfl) ?_ | refine GoOps.p (OpL.call rfl rfl (within3_spec _ _ _) rfl rfl) ?_ | (refine GoOps.sn rfl rfl ?_ ?_ <;> intro _ <;> try contradiction))
  iterate 3 (· rename_i h1; ((try dsimp only [thenA, inBlockA]); refine FnPost.many (.inr rfl) (RetOK.hv rfl RetOK.nil) ?_; (try dsimp only [tup])); rw [decide_eq_false]; rintro ⟨_, _, _, _, h3⟩; have h4 := h3 i2 (by omega); first | exact h1 h4.1 | exact h1 h4.2.1 | exact h1 h4.2.2)
  · refine hR2 (i2 + 1) _ ⟨by omega, fun j hj => ?_⟩ (by omega) (by (refine AS.sub.mk' _ _ (lk []) rfl rfl ?_ ?_ <;> repeat' (first | exact True.intro | rfl | exact Wk.refl _ | exact ⟨_, rfl, Elems.all rfl⟩ | refine And.intro ?_ ?_)))
    by_cases h : j < i2
    · exact hz2 j h
    · obtain rfl : j = i2 := by omega
      exact ⟨by assumption, by assumption, by assumption⟩
  · ((try dsimp only [thenA, inBlockA]); refine FnPost.many (.inr rfl) (RetOK.hv rfl RetOK.nil) ?_; (try dsimp only [tup]))
    rw [decide_eq_true]
    exact ⟨by assumption, by omega, by omega, fun j hj => hz j (by omega), fun j hj => hz2 j (by omega)⟩

def Format.status (f : Format) : Int := if f.disk.ok then (if formatP f then (if clashP f.grown then 31 else 0) else 30) else 10

theorem Check03_spec (f : Format) : PSpec env 29 [f.av] (.int .i64 f.status) := by
  by_cases hd : f.disk.ok
  · have hg := hd.good
    refine Spec.intro (nt := _) (rs := [_]) Tryz.func29 rfl rfl rfl rfl rfl [] (fun _ h => absurd rfl h) fun X => ?_
    repeat' (first | refine GoC.seq ?_ | refine GoC.region rfl ?_ | refine GoC.skip ?_ | refine GoC.ret ?_ | (refine GoC.cond_d rfl ?_ ?_ <;> intro _ <;> try contradiction) | (refine GoC.cond_n rfl ?_ ?_ <;> intro _ <;> try contradiction) | refine GoOps.nil ?_ | refine GoOps.a rfl ?_ | refine GoOps.m (OpL.boxw (by rfl) rfl rfl rfl rfl) ?_ | refine GoOps.p (OpL.call rfl rfl (Check01_spec f.disk) rfl rfl) ?_ | refine GoOps.p (OpL.call rfl rfl (isFormat_spec f hg) rfl rfl) ?_ | refine GoOps.p (OpL.call rfl rfl (clash_spec _ f.grown) rfl rfl) ?_)
    · rename_i h
      exact absurd (if_pos hd) h
    · ((try dsimp only [thenA, inBlockA]); refine FnPost.many (.inr rfl) (RetOK.hv rfl RetOK.nil) ?_; (try dsimp only [tup])); rw [Format.status, if_pos hd, if_neg (by assumption)]
    · ((try dsimp only [thenA, inBlockA]); refine FnPost.many (.inr rfl) (RetOK.hv rfl RetOK.nil) ?_; (try dsimp only [tup])); rw [Format.status, if_pos hd, if_pos (by assumption), if_pos (by assumption)]
    · ((try dsimp only [thenA, inBlockA]); refine FnPost.many (.inr rfl) (RetOK.hv rfl RetOK.nil) ?_; (try dsimp only [tup])); rw [Format.status, if_pos hd, if_pos (by assumption), if_neg (by assumption)]
  · refine Spec.intro (nt := _) (rs := [_]) Tryz.func29 rfl rfl rfl rfl rfl [] (fun _ h => absurd rfl h) fun X => ?_
    repeat' (first | refine GoC.seq ?_ | refine GoC.region rfl ?_ | refine GoC.skip ?_ | refine GoC.ret ?_ | (refine GoC.cond_d rfl ?_ ?_ <;> intro _ <;> try contradiction) | refine GoOps.nil ?_ | refine GoOps.a rfl ?_ | refine GoOps.m (OpL.boxw (by rfl) rfl rfl rfl rfl) ?_ | refine GoOps.p (OpL.call rfl rfl (Check01_spec f.disk) rfl rfl) ?_)
    · ((try dsimp only [thenA, inBlockA]); refine FnPost.many (.inr rfl) (RetOK.hv rfl RetOK.nil) ?_; (try dsimp only [tup])); rw [Format.status, if_neg hd]
    · rename_i h
      rw [if_neg hd] at h
      exact absurd (by decide) h
end Go.Proofs.YtfbjoamdkieamaaGreat.AM
end

section
set_option linter.unusedSimpArgs false
set_option linter.unusedVariables false
set_option maxHeartbeats 8000000
namespace Go.Proofs.YtfbjoamdkieamaaGreat.AM
open Go

theorem zin_spec (n lo hi : Int) : PSpec env 108 [.int .i64 n, .int .i64 lo, .int .i64 hi] (.bool (decide (lo ≤ n ∧ n ≤ hi))) := by
  refine Spec.intro (nt := _) (rs := [_]) Tryz.func108 rfl rfl rfl rfl rfl [] (fun _ h => absurd rfl h) fun X => ?_
  repeat' (first | refine GoC.seq ?_ | refine GoC.region rfl ?_ | refine GoC.ret ?_ | refine GoOps.nil ?_ | refine GoOps.a rfl ?_ | refine GoOps.u rfl rfl rfl rfl ?_ | refine GoOps.gs rfl rfl rfl rfl ?_ | (refine GoOps.sd rfl rfl ?_ ?_ <;> intro _ <;> try contradiction))
  all_goals (((try dsimp only [thenA, inBlockA]); refine FnPost.many (.inr rfl) (RetOK.hv rfl RetOK.nil) ?_; (try dsimp only [tup])); simp [*])

instance (s : Span) : Decidable (spanOK s) := by unfold spanOK; infer_instance
theorem zspan_spec (s : Span) : PSpec env 107 [s.av] (.bool (decide (spanOK s))) := by
  refine Spec.intro (nt := _) (rs := [_]) Tryz.func107 rfl rfl rfl rfl rfl [] (fun _ h => absurd rfl h) fun X => ?_
  repeat' (first | refine GoC.seq ?_ | refine GoC.region rfl ?_ | refine GoC.ret ?_ | refine GoOps.nil ?_ | refine GoOps.a rfl ?_ | refine GoOps.u rfl rfl rfl rfl ?_ | refine GoOps.gs rfl rfl rfl rfl ?_ | refine GoOps.m (OpL.boxw (by rfl) rfl rfl rfl rfl) ?_ | (refine GoOps.sd rfl rfl ?_ ?_ <;> intro _ <;> try contradiction))
  all_goals (((try dsimp only [thenA, inBlockA]); refine FnPost.many (.inr rfl) (RetOK.hv rfl RetOK.nil) ?_; (try dsimp only [tup])); simp [*, spanOK])

theorem ZCheck_spec (d : Disk) : PSpec env 85 [d.av] (.int .i64 (if d.ok then 0 else 10)) := by
  refine Spec.intro (nt := _) (rs := [_]) Tryz.func85 rfl rfl rfl rfl rfl [] (fun _ h => absurd rfl h) fun X => ?_
  repeat' (first | refine GoC.seq ?_ | refine GoC.block ?_ | refine GoC.region rfl ?_ | refine GoC.skip ?_ | refine GoC.ret ?_ | (refine GoC.cond_n rfl ?_ ?_ <;> intro _ <;> try contradiction) | refine GoOps.nil ?_ | refine GoOps.a rfl ?_ | refine GoOps.p (OpL.len rfl rfl) ?_ | refine GoOps.p (OpL.sub rfl rfl (by (first | assumption | omega))) ?_ | refine GoOps.m (OpL.boxw (by rfl) rfl rfl rfl rfl) ?_ | refine GoOps.p (OpL.call rfl rfl (zin_spec _ _ _) rfl rfl) ?_ | refine GoOps.p (OpL.call rfl rfl (zspan_spec _) rfl rfl) ?_)
  all_goals try (((try dsimp only [thenA, inBlockA]); refine FnPost.many (.inr rfl) (RetOK.hv rfl RetOK.nil) ?_; (try dsimp only [tup])); first | (exfalso; first | contradiction | omega) | (rw [if_neg (by rintro ⟨⟨h1, h2, h3, h4, h5⟩, _, h6, h7⟩; first | omega | contradiction)]))
  refine GoC.loop (G := Nat) (fun i => ⟨ofL .junk [(1, .ptr 1 9 0 0), (46, .list false 2 (d.zones.map Zone.av)), (47, .int .i64 d.zones.length), (48, .int .i64 i)], ofL .free [(1, .arr 26 9 [d.av])], []⟩) (fun i => i ≤ d.zones.length ∧ ∀ j, j < i → zoneOK d.turn (d.zones.getD j default)) (fun i => d.zones.length - i) 0 ⟨Nat.zero_le _, fun j h => absurd h (Nat.not_lt_zero j)⟩ (by (refine AS.sub.mk' _ _ (lk []) rfl rfl ?_ ?_ <;> repeat' (first | exact True.intro | rfl | exact Wk.refl _ | exact ⟨_, rfl, Elems.all rfl⟩ | refine And.intro ?_ ?_))) ?_
  rintro i ⟨hi, hz⟩ R hR
  try dsimp only at *
  repeat' (first | refine GoC.seq ?_ | refine GoC.block ?_ | refine GoC.region rfl ?_ | refine GoC.skip ?_ | refine GoC.exit ?_ | refine GoC.ret ?_ | refine GoC.cond_t rfl ?_ | (refine GoC.cond_d rfl ?_ ?_ <;> intro _ <;> try contradiction) | refine GoOps.nil ?_ | refine GoOps.a rfl ?_ | refine GoOps.u rfl rfl rfl rfl ?_ | refine GoOps.gs rfl rfl rfl rfl ?_ | refine GoOps.b rfl ?_ | refine GoOps.p (OpL.idx rfl rfl (by with_reducible exact rfl) rfl rfl rfl rfl (by (first | assumption | omega))) ?_ | refine GoOps.p (OpL.add rfl rfl (by (first | assumption | omega))) ?_ | refine GoOps.p (OpL.remn rfl rfl (by (first | assumption | omega)) (by (first | assumption | omega))) ?_ | refine GoOps.n (OpL.st1 rfl) ?_ | refine GoOps.p (OpL.call rfl rfl (zin_spec _ _ _) rfl rfl) ?_ | (refine GoOps.sn rfl rfl ?_ ?_ <;> intro _ <;> try contradiction))
  iterate 3 (· ((try dsimp only [thenA, inBlockA]); refine FnPost.many (.inr rfl) (RetOK.hv rfl RetOK.nil) ?_; (try dsimp only [tup])); rw [if_neg (by rintro ⟨_, h2, _⟩; have h3 := h2 _ (mem_gd (l := d.zones) (i := i) (by omega)); obtain ⟨h3, h4, h5⟩ := h3; first | omega | contradiction)])
  · refine hR (i + 1) _ ⟨by omega, fun j hj => ?_⟩ (by omega) (by (refine AS.sub.mk' _ _ (lk []) rfl rfl ?_ ?_ <;> repeat' (first | exact True.intro | rfl | exact Wk.refl _ | exact ⟨_, rfl, Elems.all rfl⟩ | refine And.intro ?_ ?_)))
    by_cases h : j < i
    · exact hz j h
    · obtain rfl : j = i := by omega
      exact ⟨by assumption, by assumption, by omega⟩
  · ((try dsimp only [thenA, inBlockA]); refine FnPost.many (.inr rfl) (RetOK.hv rfl RetOK.nil) ?_; (try dsimp only [tup]))
    rw [if_pos]
    refine ⟨⟨by omega, by omega, by omega, by omega, by omega⟩, fun z hz' => ?_, by assumption, by assumption⟩
    obtain ⟨j, hj, rfl⟩ := List.mem_iff_getElem.1 hz'
    rw [← gd (d := default) hj]
    exact hz j (by omega)
end Go.Proofs.YtfbjoamdkieamaaGreat.AM
end

section
set_option linter.unusedSimpArgs false
set_option linter.unusedVariables false
set_option maxHeartbeats 8000000
namespace Go.Proofs.YtfbjoamdkieamaaGreat.AM
open Go

structure Track where
  cyl : Int
  head : Int
  sec : Int
  first : Int
  off : Int
  deriving DecidableEq, Inhabited
def Track.av (t : Track) : AV := .agg [.int .i64 t.cyl, .int .i64 t.head, .int .i64 t.sec, .int .i64 t.first, .int .i64 t.off]

def Track.next (d : Disk) (t : Track) : Track := { t with first := t.first + t.sec, off := (t.off + (if decide (t.head = d.heads - 1) = true then d.cylSkew else d.headSkew)) % d.turn }
def trH (d : Disk) (z : Zone) (t : Track) : Nat → List Track × Track
  | 0 => ([], t)
  | h + 1 => ((trH d z t h).1 ++ [{ (trH d z t h).2 with head := h, sec := z.sec }], Track.next d { (trH d z t h).2 with head := h, sec := z.sec })
def trC (d : Disk) (z : Zone) (t : Track) : Nat → List Track × Track
  | 0 => ([], t)
  | c + 1 => ((trC d z t c).1 ++ (trH d z (trC d z t c).2 d.heads.toNat).1, { (trH d z (trC d z t c).2 d.heads.toNat).2 with cyl := (trH d z (trC d z t c).2 d.heads.toNat).2.cyl + 1 })
def trZ (d : Disk) : Nat → List Track × Track
  | 0 => ([], ⟨0, 0, 0, 0, 0⟩)
  | i + 1 => ((trZ d i).1 ++ (trC d (d.zones.getD i default) (trZ d i).2 (d.zones.getD i default).cyl.toNat).1, (trC d (d.zones.getD i default) (trZ d i).2 (d.zones.getD i default).cyl.toNat).2)
def Disk.tracks (d : Disk) : List Track := (trZ d d.zones.length).1

theorem skew_spec (d : Disk) (b : Bool) : PSpec env 109 [d.av, .bool b] (.int .i64 (if b then d.cylSkew else d.headSkew)) := by
  refine Spec.intro (nt := _) (rs := [_]) Tryz.func109 rfl rfl rfl rfl rfl [] (fun _ h => absurd rfl h) fun X => ?_
  repeat' (first | refine GoC.seq ?_ | refine GoC.region rfl ?_ | refine GoC.skip ?_ | refine GoC.ret ?_ | (refine GoC.cond rfl ?_ ?_ <;> intro _ <;> try contradiction) | refine GoOps.nil ?_ | refine GoOps.a rfl ?_ | refine GoOps.m (OpL.boxw (by rfl) rfl rfl rfl rfl) ?_)
  all_goals (((try dsimp only [thenA, inBlockA]); refine FnPost.many (.inr rfl) (RetOK.hv rfl RetOK.nil) ?_; (try dsimp only [tup])); simp [*])

theorem open_spec (d : Disk) : PSpec env 66 [d.av] (.tuple [d.av, .int .i64 (if d.ok then 0 else 10)]) := by
  refine Spec.intro (nt := _) (rs := [_, _]) Tryz.func66 rfl rfl rfl rfl rfl [] (fun _ h => absurd rfl h) fun X => ?_
  repeat' (first | refine GoC.seq ?_ | refine GoC.region rfl ?_ | refine GoC.draw env_mixed ?_ | refine GoC.ret ?_ | refine GoOps.nil ?_ | refine GoD.done rfl rfl (by kernel_rfl) ?_ | refine GoOps.a rfl ?_ | refine GoD.a rfl ?_ | refine GoOps.b rfl ?_ | refine GoD.p (OpL.build rfl) ?_ | refine GoOps.m (OpL.boxw (by rfl) rfl rfl rfl rfl) ?_ | refine GoD.n (OpL.st1 rfl) ?_ | refine GoD.p (OpL.call rfl rfl (ZCheck_spec _) rfl rfl) ?_)
  refine FnPost.by (.inr rfl) (AS.sub.refl _) (RetOK.cellF rfl rfl rfl rfl rfl (RetOK.hv rfl RetOK.nil)) ?_
  rfl

/-! ### Bounds -/
structure TrB (d : Disk) (t : Track) (b : Int) : Prop where
  first : 0 ≤ t.first ∧ t.first ≤ b
  off : 0 ≤ t.off ∧ t.off < d.turn
theorem trH_b {d : Disk} (hd : d.Good) (hs : (0 ≤ d.headSkew ∧ d.headSkew ≤ d.turn - 1) ∧ 0 ≤ d.cylSkew ∧ d.cylSkew ≤ d.turn - 1) {z : Zone} (hz : 1 ≤ z.sec ∧ z.sec ≤ 16) {t : Track} {b : Int} (ht : TrB d t b) (h : Nat) :
    TrB d (trH d z t h).2 (b + 16 * h) ∧ (trH d z t h).2.cyl = t.cyl ∧ (trH d z t h).1.length = h ∧ ∀ x ∈ (trH d z t h).1, x.sec = z.sec := by
  induction h with
  | zero => exact ⟨⟨by simpa [trH] using ht.first, ht.off⟩, rfl, rfl, fun x hx => by simp [trH] at hx⟩
  | succ h ih =>
    obtain ⟨⟨h1, h2⟩, h3, h4, h5⟩ := ih
    have ht := hd.turn
    refine ⟨⟨?_, ?_⟩, h3, by simp [trH, h4], fun x hx => ?_⟩
    · simp only [trH, Track.next]; omega
    · simp only [trH, Track.next]
      exact ⟨Int.emod_nonneg _ (by omega), Int.emod_lt_of_pos _ (by omega)⟩
    · simp only [trH, List.mem_append, List.mem_singleton] at hx
      rcases hx with hx | rfl
      · exact h5 x hx
      · rfl
theorem trC_b {d : Disk} (hd : d.Good) (hs : (0 ≤ d.headSkew ∧ d.headSkew ≤ d.turn - 1) ∧ 0 ≤ d.cylSkew ∧ d.cylSkew ≤ d.turn - 1) {z : Zone} (hz : 1 ≤ z.sec ∧ z.sec ≤ 16) {t : Track} {b : Int} (ht : TrB d t b) (c : Nat) :
    TrB d (trC d z t c).2 (b + 64 * c) ∧ (trC d z t c).2.cyl = t.cyl + c ∧ (trC d z t c).1.length ≤ 4 * c ∧ ∀ x ∈ (trC d z t c).1, x.sec = z.sec := by
  induction c with
  | zero => exact ⟨⟨by simpa [trC] using ht.first, ht.off⟩, by simp [trC], by simp [trC], fun x hx => by simp [trC] at hx⟩
  | succ c ih =>
    obtain ⟨h1, h2, h3, h4⟩ := ih
    obtain ⟨⟨k1, k2⟩, k3, k4, k5⟩ := trH_b hd hs hz h1 d.heads.toNat
    have hh := hd.heads
    refine ⟨⟨?_, k2⟩, ?_, ?_, fun x hx => ?_⟩
    · simp only [trC]; omega
    · simp only [trC]; omega
    · simp only [trC, List.length_append]; omega
    · simp only [trC, List.mem_append] at hx
      rcases hx with hx | hx
      · exact h4 x hx
      · exact k5 x hx
theorem trZ_b {d : Disk} (hd : d.Good) (hs : (0 ≤ d.headSkew ∧ d.headSkew ≤ d.turn - 1) ∧ 0 ≤ d.cylSkew ∧ d.cylSkew ≤ d.turn - 1) (i : Nat) (hi : i ≤ d.zones.length) :
    TrB d (trZ d i).2 (1280 * i) ∧ (0 ≤ (trZ d i).2.cyl ∧ (trZ d i).2.cyl ≤ 20 * i) ∧ (trZ d i).1.length ≤ 80 * i ∧ ∀ x ∈ (trZ d i).1, 0 ≤ x.sec ∧ x.sec ≤ 16 := by
  induction i with
  | zero => have := hd.turn; exact ⟨⟨by simp [trZ], by simp only [trZ]; omega⟩, by simp [trZ], by simp [trZ], fun x hx => by simp [trZ] at hx⟩
  | succ i ih =>
    obtain ⟨h1, h2, h3, h4⟩ := ih (by omega)
    have hz := hd.zone _ (mem_gd (l := d.zones) (i := i) (by omega))
    obtain ⟨⟨k1, k2⟩, k3, k4, k5⟩ := trC_b hd hs hz.2 h1 (d.zones.getD i default).cyl.toNat
    refine ⟨⟨?_, k2⟩, ?_, ?_, fun x hx => ?_⟩
    · simp only [trZ]; omega
    · simp only [trZ]; omega
    · simp only [trZ, List.length_append]; omega
    · simp only [trZ, List.mem_append] at hx
      rcases hx with hx | hx
      · exact h4 x hx
      · rw [k5 x hx]; omega

def TrOK (pre : List Track) (x : Track) : Prop := pre.length ≤ 320 ∧ ∀ y ∈ pre ++ [x], 0 ≤ y.sec ∧ y.sec ≤ 16
theorem tracks_spec (d : Disk) (hk : d.ok) (nt : Nat) (ps : Array Tmp) (asg body : Code) (f : List Track → AV) (hf : ∀ l, (f l).noId = true)
    (hY : ∀ pre x, TrOK pre x → YSpec env 1000000 [Track.av x] (ofL .free [(1000000, .loop false nt ps asg body [(2, .ptr 1000002 1 0 0)]), (1000002, .arr 3 1 [f pre])]) (fun H' => ∀ p ∈ [(1000000, HO.loop false nt ps asg body [(2, .ptr 1000002 1 0 0)]), (1000002, .arr 3 1 [f (pre ++ [x])])], H' p.1 = p.2)) :
    Spec env 86 [d.av, .yld 1000000] (ofL .free [(1000000, .loop false nt ps asg body [(2, .ptr 1000002 1 0 0)]), (1000002, .arr 3 1 [f []])])
      (fun r H' => ∃ z : Unit, True ∧ ∀ p ∈ [(1000000, HO.loop false nt ps asg body [(2, .ptr 1000002 1 0 0)]), (1000002, .arr 3 1 [f d.tracks])], H' p.1 = p.2) := by
  have hd := hk.good
  have hs : (0 ≤ d.headSkew ∧ d.headSkew ≤ d.turn - 1) ∧ 0 ≤ d.cylSkew ∧ d.cylSkew ≤ d.turn - 1 := ⟨hk.1.2.2.2.1, hk.1.2.2.2.2⟩
  have hfm : ∀ l, ∀ x ∈ [f l], x.noId = true := fun l x hx => by simp only [List.mem_singleton] at hx; rw [hx]; exact hf l
  refine Spec.intro (nt := _) (rs := []) Tryz.func86 rfl rfl rfl rfl rfl [1000000, 1000002] (fun i h => ofL_keys _ i h) fun X => ?_
  repeat' (first | refine GoC.seq ?_ | refine GoC.block ?_ | refine GoC.region rfl ?_ | refine GoOps.nil ?_ | refine GoOps.a rfl ?_ | refine GoOps.b rfl ?_ | refine GoOps.p (OpL.len rfl rfl) ?_ | refine GoOps.m (OpL.boxw (by rfl) rfl rfl rfl rfl) ?_)
  refine GoC.loop (G := Nat) (fun i => ⟨ofL .junk [(1, .yld 1000000), (2, .ptr 2 9 0 0), (4, .ptr 4 5 0 0), (9, .list false 2 (d.zones.map Zone.av)), (10, .int .i64 d.zones.length), (11, .int .i64 i)],
      ofL .free [(2, .arr 104 9 [d.av]), (4, .arr 125 5 [(trZ d i).2.av]), (1000000, .loop false nt ps asg body [(2, .ptr 1000002 1 0 0)]), (1000002, .arr 3 1 [f (trZ d i).1])], [1000000, 1000002]⟩) (fun i => i ≤ d.zones.length) (fun i => d.zones.length - i) 0 (Nat.zero_le _) (by (refine AS.sub.mk' _ _ (lk []) rfl rfl ?_ ?_ <;> repeat' (first | exact True.intro | rfl | exact Wk.refl _ | exact ⟨_, rfl, Elems.all rfl⟩ | exact ⟨_, rfl, Elems.same _ (hfm _)⟩ | exact ⟨_, rfl, ⟨Wk.refl _, rfl⟩, trivial⟩ | refine And.intro ?_ ?_))) ?_
  intro i hi R hR
  obtain ⟨hb1, hb2, hb3, hb4⟩ := trZ_b hd hs i hi
  have hlen := hd.len
  repeat' (first | refine GoC.seq ?_ | refine GoC.block ?_ | refine GoC.region rfl ?_ | refine GoC.skip ?_ | refine GoC.exit ?_ | (refine GoC.cond_d rfl ?_ ?_ <;> intro _ <;> try contradiction) | refine GoOps.nil ?_ | refine GoOps.a rfl ?_ | refine GoOps.b rfl ?_ | refine GoOps.p (OpL.idx rfl rfl (by with_reducible exact rfl) rfl rfl rfl rfl (by (first | assumption | omega))) ?_ | refine GoOps.n (OpL.st1 rfl) ?_)
  · have hz := hd.zone _ (mem_gd (l := d.zones) (i := i) (by omega))
    refine GoC.loop (G := Nat) (fun c => ⟨ofL .junk [(1, .yld 1000000), (2, .ptr 2 9 0 0), (4, .ptr 4 5 0 0), (6, .ptr 6 2 0 0), (9, .list false 2 (d.zones.map Zone.av)), (10, .int .i64 d.zones.length), (11, .int .i64 i), (16, .int .i64 (d.zones.getD i default).cyl), (17, .int .i64 c)],
        ofL .free [(2, .arr 104 9 [d.av]), (4, .arr 125 5 [(trC d (d.zones.getD i default) (trZ d i).2 c).2.av]), (6, .arr 75 2 [(d.zones.getD i default).av]), (1000000, .loop false nt ps asg body [(2, .ptr 1000002 1 0 0)]), (1000002, .arr 3 1 [f ((trZ d i).1 ++ (trC d (d.zones.getD i default) (trZ d i).2 c).1)])], [1000000, 1000002]⟩)
      (fun c => (c : Int) ≤ (d.zones.getD i default).cyl) (fun c => (d.zones.getD i default).cyl.toNat - c) 0 (by omega) (by rw [show (trC d (d.zones.getD i default) (trZ d i).2 0).1 = [] from rfl, List.append_nil]; (refine AS.sub.mk' _ _ (lk []) rfl rfl ?_ ?_ <;> repeat' (first | exact True.intro | rfl | exact Wk.refl _ | exact ⟨_, rfl, Elems.all rfl⟩ | exact ⟨_, rfl, Elems.same _ (hfm _)⟩ | exact ⟨_, rfl, ⟨Wk.refl _, rfl⟩, trivial⟩ | refine And.intro ?_ ?_))) ?_
    intro c hc R2 hR2
    obtain ⟨kb1, kb2, kb3, kb4⟩ := trC_b hd hs hz.2 hb1 c
    have hheads := hd.heads
    repeat' (first | refine GoC.seq ?_ | refine GoC.block ?_ | refine GoC.region rfl ?_ | refine GoC.skip ?_ | refine GoC.exit ?_ | (refine GoC.cond_d rfl ?_ ?_ <;> intro _ <;> try contradiction) | refine GoOps.nil ?_ | refine GoOps.a rfl ?_ | refine GoOps.p (OpL.add rfl rfl (by (first | assumption | omega))) ?_)
    · refine GoC.loop (G := Nat) (fun h => ⟨ofL .junk [(1, .yld 1000000), (2, .ptr 2 9 0 0), (4, .ptr 4 5 0 0), (6, .ptr 6 2 0 0), (9, .list false 2 (d.zones.map Zone.av)), (10, .int .i64 d.zones.length), (11, .int .i64 i), (16, .int .i64 (d.zones.getD i default).cyl), (17, .int .i64 c), (21, .int .i64 d.heads), (22, .int .i64 h)],
          ofL .free [(2, .arr 104 9 [d.av]), (4, .arr 125 5 [(trH d (d.zones.getD i default) (trC d (d.zones.getD i default) (trZ d i).2 c).2 h).2.av]), (6, .arr 75 2 [(d.zones.getD i default).av]), (1000000, .loop false nt ps asg body [(2, .ptr 1000002 1 0 0)]),
            (1000002, .arr 3 1 [f ((trZ d i).1 ++ (trC d (d.zones.getD i default) (trZ d i).2 c).1 ++ (trH d (d.zones.getD i default) (trC d (d.zones.getD i default) (trZ d i).2 c).2 h).1)])], [1000000, 1000002]⟩)
        (fun h => (h : Int) ≤ d.heads) (fun h => d.heads.toNat - h) 0 (by omega) (by rw [show (trH d (d.zones.getD i default) (trC d (d.zones.getD i default) (trZ d i).2 c).2 0).1 = [] from rfl, List.append_nil]; (refine AS.sub.mk' _ _ (lk []) rfl rfl ?_ ?_ <;> repeat' (first | exact True.intro | rfl | exact Wk.refl _ | exact ⟨_, rfl, Elems.all rfl⟩ | exact ⟨_, rfl, Elems.same _ (hfm _)⟩ | exact ⟨_, rfl, ⟨Wk.refl _, rfl⟩, trivial⟩ | refine And.intro ?_ ?_))) ?_
      intro h hh R3 hR3
      obtain ⟨jb1, jb2, jb3, jb4⟩ := trH_b hd hs hz.2 kb1 h
      have hturn := hd.turn
      have hf1 := jb1.first
      have hf2 := jb1.off
      have hsk : ∀ b : Bool, 0 ≤ (if b = true then d.cylSkew else d.headSkew) ∧ (if b = true then d.cylSkew else d.headSkew) ≤ 999 := by intro b; cases b <;> simp <;> omega
      have hsk' := hsk (decide ((h : Int) = d.heads - 1))
      repeat' (first | refine GoC.seq ?_ | refine GoC.block ?_ | refine GoC.region rfl ?_ | refine GoC.skip ?_ | refine GoC.exit ?_ | (refine GoC.cond_d rfl ?_ ?_ <;> intro _ <;> try contradiction) | refine GoOps.nil ?_ | refine GoOps.a rfl ?_ | refine GoOps.p (OpL.add rfl rfl (by (first | assumption | omega))) ?_ | refine GoOps.n (OpL.st1 rfl) ?_)
      · have hx : TrOK ((trZ d i).1 ++ (trC d (d.zones.getD i default) (trZ d i).2 c).1 ++ (trH d (d.zones.getD i default) (trC d (d.zones.getD i default) (trZ d i).2 c).2 h).1) { (trH d (d.zones.getD i default) (trC d (d.zones.getD i default) (trZ d i).2 c).2 h).2 with head := h, sec := (d.zones.getD i default).sec } := by
          refine ⟨by simp only [List.length_append]; omega, fun y hy => ?_⟩
          simp only [List.mem_append, List.mem_singleton] at hy
          rcases hy with ((hy | hy) | hy) | rfl
          · exact hb4 y hy
          · rw [kb4 y hy]; omega
          · rw [jb4 y hy]; omega
          · dsimp only; omega
        refine GoOps.m (OpL.callY (lk []) rfl rfl rfl (hY _ _ hx) rfl rfl ⟨⟨_, rfl, ⟨Wk.refl _, rfl⟩, trivial⟩, ⟨_, rfl, Elems.same _ (hfm _)⟩, trivial⟩ rfl rfl
          (post := [(1000000, .loop false nt ps asg body [(2, .ptr 1000002 1 0 0)]), (1000002, .arr 3 1 [f (_ ++ [_])])]) ⟨⟨rfl, ⟨rfl, fun p hp => by simp only [List.mem_singleton] at hp; subst hp; rfl⟩, .inl rfl⟩, ⟨rfl, ⟨_, rfl, OutE.same _ (hfm _)⟩, .inl rfl⟩, trivial⟩) ?_
        repeat' (first | refine GoC.seq ?_ | refine GoC.region rfl ?_ | refine GoC.draw env_mixed ?_ | refine GoC.skip ?_ | refine GoC.cond_f rfl ?_ | refine GoOps.nil ?_ | refine GoD.done rfl rfl (by kernel_rfl) ?_ | refine GoOps.a rfl ?_ | refine GoD.a rfl ?_ | refine GoOps.p (OpL.add rfl rfl (by (first | assumption | omega))) ?_ | refine GoD.p (OpL.add rfl rfl (by (first | assumption | omega))) ?_ | refine GoD.p (OpL.sub rfl rfl (by (first | assumption | omega))) ?_ | refine GoD.p (OpL.remn rfl rfl (by (first | assumption | omega)) (by (first | assumption | omega))) ?_ | refine GoOps.n (OpL.st1 rfl) ?_ | refine GoD.n (OpL.st1 rfl) ?_ | refine GoD.p (OpL.call rfl rfl (skew_spec d _) rfl rfl) ?_)
        refine hR3 (h + 1) _ (by omega) (by omega) ?_
        rw [show (trZ d i).1 ++ (trC d (d.zones.getD i default) (trZ d i).2 c).1 ++ (trH d (d.zones.getD i default) (trC d (d.zones.getD i default) (trZ d i).2 c).2 (h + 1)).1 = (trZ d i).1 ++ (trC d (d.zones.getD i default) (trZ d i).2 c).1 ++ (trH d (d.zones.getD i default) (trC d (d.zones.getD i default) (trZ d i).2 c).2 h).1 ++ [{ (trH d (d.zones.getD i default) (trC d (d.zones.getD i default) (trZ d i).2 c).2 h).2 with head := h, sec := (d.zones.getD i default).sec }] from (List.append_assoc _ _ _).symm]
        (refine AS.sub.mk' _ _ (lk []) rfl rfl ?_ ?_ <;> repeat' (first | exact True.intro | rfl | exact Wk.refl _ | exact ⟨_, rfl, Elems.all rfl⟩ | exact ⟨_, rfl, Elems.same _ (hfm _)⟩ | exact ⟨_, rfl, ⟨Wk.refl _, rfl⟩, trivial⟩ | refine And.intro ?_ ?_))
      · have e : h = d.heads.toNat := by omega
        subst e
        refine hR2 (c + 1) _ (by omega) (by omega) ?_
        rw [show (trZ d i).1 ++ (trC d (d.zones.getD i default) (trZ d i).2 (c + 1)).1 = (trZ d i).1 ++ (trC d (d.zones.getD i default) (trZ d i).2 c).1 ++ (trH d (d.zones.getD i default) (trC d (d.zones.getD i default) (trZ d i).2 c).2 d.heads.toNat).1 from (List.append_assoc _ _ _).symm]
        (refine AS.sub.mk' _ _ (lk []) rfl rfl ?_ ?_ <;> repeat' (first | exact True.intro | rfl | exact Wk.refl _ | exact ⟨_, rfl, Elems.all rfl⟩ | exact ⟨_, rfl, Elems.same _ (hfm _)⟩ | exact ⟨_, rfl, ⟨Wk.refl _, rfl⟩, trivial⟩ | refine And.intro ?_ ?_))
    · have e : c = (d.zones.getD i default).cyl.toNat := by omega
      subst e
      refine hR (i + 1) _ (by omega) (by omega) ?_
      rw [show (trZ d (i + 1)).1 = (trZ d i).1 ++ (trC d (d.zones.getD i default) (trZ d i).2 (d.zones.getD i default).cyl.toNat).1 from rfl]
      (refine AS.sub.mk' _ _ (lk []) rfl rfl ?_ ?_ <;> repeat' (first | exact True.intro | rfl | exact Wk.refl _ | exact ⟨_, rfl, Elems.all rfl⟩ | exact ⟨_, rfl, Elems.same _ (hfm _)⟩ | exact ⟨_, rfl, ⟨Wk.refl _, rfl⟩, trivial⟩ | refine And.intro ?_ ?_))
  · have e : i = d.zones.length := by omega
    subst e
    simp only [thenA, inBlockA, beq_self_eq_true, cond_true]
    refine FnPost.by (.inl rfl) (AS.sub.refl _) RetOK.nil ?_
    refine ⟨(), trivial, fun p hp => ?_⟩
    simp only [List.mem_cons, List.not_mem_nil, or_false] at hp
    rcases hp with rfl | rfl <;> rfl

end Go.Proofs.YtfbjoamdkieamaaGreat.AM
end

section
set_option linter.unusedSimpArgs false
set_option linter.unusedVariables false
set_option maxHeartbeats 8000000
namespace Go.Proofs.YtfbjoamdkieamaaGreat.AM
open Go

/-! ### The size -/
theorem size0_spec (d : Disk) (hk : d.ok) : PSpec env 67 [d.av] (.int .i64 (sumOf Track.sec d.tracks)) := by
  refine Spec.introR (nt := _) (rs := [_]) Tryz.func67 rfl rfl rfl rfl rfl [] (fun _ h => absurd rfl h) fun X hX => ?_
  repeat' (first | refine GoC.seq ?_ | refine GoC.block ?_ | refine GoC.region rfl ?_ | refine GoOps.nil ?_ | refine GoOps.a rfl ?_ | refine GoOps.b rfl ?_ | refine GoOps.m (OpL.boxw (by rfl) rfl rfl rfl rfl) ?_ | refine GoOps.p (OpL.mkf rfl) ?_)
  refine GoC.rangeFunc 1000000 [(2, .ptr 2 1 0 0)] (lk [(1000002, 2)]) hX rfl (WkL1 (Wk.refl _)) rfl (tracks_spec d hk _ _ _ _ (fun l => .int .i64 (sumOf Track.sec l)) (fun _ => rfl) fun pre x hok => ?_) rfl rfl
    ⟨⟨_, rfl, ⟨Wk.refl _, rfl⟩, trivial⟩, ⟨_, rfl, Elems.all rfl⟩, trivial⟩ rfl (fun _ => rfl) (fun _ => rfl)
    (post := fun _ => [(1000000, .loop false _ _ _ _ [(2, .ptr 2 1 0 0)]), (2, .arr 3 1 [.int .i64 (sumOf Track.sec d.tracks)])])
    (fun z _ => ⟨⟨rfl, ⟨rfl, fun p hp => by simp only [List.mem_singleton] at hp; subst hp; rfl⟩, .inl rfl⟩, ⟨rfl, ⟨_, rfl, OutE.all rfl⟩, .inl rfl⟩, trivial⟩) (fun _ => ⟨_, rfl⟩) (fun z _ => ?_)
  · obtain ⟨hl, hs⟩ := hok
    have hx := hs x (by simp)
    have hp := sumOf_le Track.sec (l := pre) (b := 16) fun y hy => hs y (by simp [hy])
    refine YSpec.intro (ps := [_]) rfl rfl rfl [1000000, 1000002] (fun i h => ofL_keys _ i h) fun X => ?_
    repeat' (first | refine GoC.region rfl ?_ | refine GoOps.nil ?_ | refine GoOps.b rfl ?_ | refine GoOps.n (OpL.st1 rfl) ?_)
    refine BeginA.mk rfl ?_
    repeat' (first | refine GoC.block ?_ | refine GoC.region rfl ?_ | refine GoOps.nil ?_ | refine GoOps.a rfl ?_ | refine GoOps.p (OpL.add rfl rfl (by (first | assumption | omega))) ?_ | refine GoOps.n (OpL.st1 rfl) ?_)
    try simp only [thenA, inBlockA, beq_self_eq_true, cond_true]
    refine RoundA.mk (AS.sub.refl _) rfl ?_
    intro p hp
    simp only [List.mem_cons, List.not_mem_nil, or_false] at hp
    rcases hp with rfl | rfl
    · rfl
    · rw [sumOf_append]
      simp only [sumOf, Int.add_zero]
      rfl
  · repeat' (first | refine GoC.seq ?_ | refine GoC.region rfl ?_ | refine GoC.ret ?_ | refine GoOps.nil ?_ | refine GoOps.a rfl ?_ | refine GoOps.n (OpL.st1 rfl) ?_)
    refine FnPost.by (.inr rfl) (AS.sub.refl _) (RetOK.cellF rfl rfl rfl rfl rfl RetOK.nil) ?_
    rfl
theorem Size_spec (d : Disk) : PSpec env 43 [d.av] (.tuple [.int .i64 (if d.ok then sumOf Track.sec d.tracks else 0), .int .i64 (if d.ok then 0 else 10)]) := by
  by_cases hd : d.ok
  · refine Spec.intro (nt := _) (rs := [_, _]) Tryz.func43 rfl rfl rfl rfl rfl [] (fun _ h => absurd rfl h) fun X => ?_
    repeat' (first | refine GoC.seq ?_ | refine GoC.region rfl ?_ | refine GoC.skip ?_ | refine GoC.ret ?_ | (refine GoC.cond_d rfl ?_ ?_ <;> intro _ <;> try contradiction) | refine GoOps.nil ?_ | refine GoOps.a rfl ?_ | refine GoOps.b rfl ?_ | refine GoOps.m (OpL.boxw (by rfl) rfl rfl rfl rfl) ?_ | refine GoOps.n (OpL.st1 rfl) ?_ | refine GoOps.p (OpL.call rfl rfl (open_spec _) rfl rfl) ?_ | refine GoOps.p (OpL.call rfl rfl (size0_spec d hd) rfl rfl) ?_)
    · rename_i h; exact absurd (if_pos hd) h
    · ((try dsimp only [thenA, inBlockA]); refine FnPost.many (.inr rfl) (RetOK.hv rfl (RetOK.hv rfl RetOK.nil)) ?_; (try dsimp only [tup])); rw [if_pos hd, if_pos hd]
  · refine Spec.intro (nt := _) (rs := [_, _]) Tryz.func43 rfl rfl rfl rfl rfl [] (fun _ h => absurd rfl h) fun X => ?_
    repeat' (first | refine GoC.seq ?_ | refine GoC.region rfl ?_ | refine GoC.skip ?_ | refine GoC.ret ?_ | (refine GoC.cond_d rfl ?_ ?_ <;> intro _ <;> try contradiction) | refine GoOps.nil ?_ | refine GoOps.a rfl ?_ | refine GoOps.b rfl ?_ | refine GoOps.m (OpL.boxw (by rfl) rfl rfl rfl rfl) ?_ | refine GoOps.n (OpL.st1 rfl) ?_ | refine GoOps.p (OpL.call rfl rfl (open_spec _) rfl rfl) ?_)
    · ((try dsimp only [thenA, inBlockA]); refine FnPost.many (.inr rfl) (RetOK.hv rfl (RetOK.hv rfl RetOK.nil)) ?_; (try dsimp only [tup])); rw [if_neg hd, if_neg hd]
    · rename_i h
      rw [if_neg hd] at h
      exact absurd (by decide) h
end Go.Proofs.YtfbjoamdkieamaaGreat.AM
end

section
set_option linter.unusedSimpArgs false
set_option linter.unusedVariables false
set_option maxHeartbeats 8000000
namespace Go.Proofs.YtfbjoamdkieamaaGreat.AM
open Go

/-! ### The size is the count -/
theorem trH_sum (d : Disk) (z : Zone) (t : Track) (h : Nat) : sumOf Track.sec (trH d z t h).1 = h * z.sec := by
  induction h with
  | zero => simp [trH, sumOf]
  | succ h ih => simp only [trH, sumOf_append, ih, sumOf]; rw [Int.natCast_add, Int.add_mul]; simp
theorem trC_sum (d : Disk) (z : Zone) (t : Track) (c : Nat) : sumOf Track.sec (trC d z t c).1 = c * (d.heads.toNat * z.sec) := by
  induction c with
  | zero => simp [trC, sumOf]
  | succ c ih => simp only [trC, sumOf_append, ih, trH_sum]; rw [Int.natCast_add, Int.add_mul]; simp
theorem trZ_sum {d : Disk} (hd : d.Good) (i : Nat) (hi : i ≤ d.zones.length) : sumOf Track.sec (trZ d i).1 = sumOf (fun z => z.cyl * z.sec * d.heads) (d.zones.take i) := by
  induction i with
  | zero => simp [trZ, sumOf]
  | succ i ih =>
    rw [sumOf_take _ (by omega), ← ih (by omega)]
    simp only [trZ, sumOf_append, trC_sum]
    have hz := hd.zone _ (mem_gd (l := d.zones) (i := i) (by omega))
    have hh := hd.heads
    rw [Int.toNat_of_nonneg (by omega), Int.toNat_of_nonneg (by omega), Int.mul_comm d.heads, Int.mul_assoc]
theorem size_count {d : Disk} (hd : d.Good) : sumOf Track.sec d.tracks = d.count := by
  have := trZ_sum hd d.zones.length (Nat.le_refl _)
  rwa [List.take_length] at this

theorem ascending_spec (c : Bool) (l : List Int) (lo hi : Int) : PSpec env 78 [.list c 1 (l.map (.int .i64)), .int .i64 lo, .int .i64 hi] (.bool (decide (∀ i, i < l.length → (lo ≤ l.getD i default ∧ l.getD i default ≤ hi) ∧ (0 < i → l.getD (i - 1) default < l.getD i default)))) := by
  refine Spec.intro (nt := _) (rs := [_]) Tryz.func78 rfl rfl rfl rfl rfl [] (fun _ h => absurd rfl h) fun X => ?_
  refine GoC.bnd 0 rfl fun hb => ?_
  repeat' (first | refine GoC.seq ?_ | refine GoC.block ?_ | refine GoC.region rfl ?_ | refine GoOps.nil ?_ | refine GoOps.a rfl ?_ | refine GoOps.p (OpL.len rfl rfl) ?_)
  refine GoC.loop (G := Nat) (fun i => ⟨ofL .junk [(0, .list c 1 (l.map (.int .i64))), (1, .int .i64 lo), (2, .int .i64 hi), (9, .list c 1 (l.map (.int .i64))), (10, .int .i64 l.length), (11, .int .i64 i)], ofL .free [], []⟩)
    (fun i => i ≤ l.length ∧ ∀ j, j < i → (lo ≤ l.getD j default ∧ l.getD j default ≤ hi) ∧ (0 < j → l.getD (j - 1) default < l.getD j default)) (fun i => l.length - i) 0 ⟨Nat.zero_le _, fun j h => absurd h (Nat.not_lt_zero j)⟩ (by (refine AS.sub.mk' _ _ (lk []) rfl rfl ?_ ?_ <;> repeat' (first | exact True.intro | rfl | exact Wk.refl _ | refine And.intro ?_ ?_))) ?_
  rintro i ⟨hi1, hz⟩ R hR
  try dsimp only at *
  repeat' (first | refine GoC.seq ?_ | refine GoC.block ?_ | refine GoC.region rfl ?_ | refine GoC.skip ?_ | refine GoC.exit ?_ | refine GoC.ret ?_ | refine GoC.cond_t rfl ?_ | refine GoC.cond_f rfl ?_ | (refine GoC.cond_d rfl ?_ ?_ <;> intro _ <;> try contradiction) | refine GoOps.nil ?_ | refine GoOps.a rfl ?_ | refine GoOps.u rfl rfl rfl rfl ?_ | refine GoOps.gs rfl rfl rfl rfl ?_ | refine GoOps.gj rfl rfl rfl ?_ | refine GoOps.p (OpL.idx rfl rfl (by with_reducible exact rfl) rfl rfl rfl rfl (by (first | assumption | omega))) ?_ | refine GoOps.p (OpL.idxn rfl rfl rfl rfl rfl rfl (by (first | assumption | omega))) ?_ | refine GoOps.p (OpL.add rfl rfl (by (first | assumption | omega))) ?_ | refine GoOps.p (OpL.sub rfl rfl (by (first | assumption | omega))) ?_ | (refine GoOps.sd rfl rfl ?_ ?_ <;> intro _ <;> try contradiction))
  iterate 2 (· ((try dsimp only [thenA, inBlockA]); refine FnPost.many (.inr rfl) (RetOK.hv rfl RetOK.nil) ?_; (try dsimp only [tup])); rw [decide_eq_false]; intro h; have := (h i (by omega)).1; omega)
  · rename_i h1 h2 h3 h4 h5
    ((try dsimp only [thenA, inBlockA]); refine FnPost.many (.inr rfl) (RetOK.hv rfl RetOK.nil) ?_; (try dsimp only [tup])); rw [decide_eq_false]; intro h
    have h6 := (h i (by omega)).2 (by omega)
    rw [show i - 1 = ((i : Int) - 1).toNat by omega] at h6
    omega
  · rename_i h1 h2 h3 h4 h5
    refine hR (i + 1) _ ⟨by omega, fun j hj => ?_⟩ (by omega) (by (refine AS.sub.mk' _ _ (lk []) rfl rfl ?_ ?_ <;> repeat' (first | exact True.intro | rfl | exact Wk.refl _ | refine And.intro ?_ ?_)))
    by_cases h : j < i
    · exact hz j h
    · obtain rfl : j = i := by omega
      refine ⟨by omega, fun _ => ?_⟩
      rw [show ((j : Int) - 1).toNat = j - 1 by omega] at h5
      omega
  · rename_i h1 h2 h3 h4
    refine hR (i + 1) _ ⟨by omega, fun j hj => ?_⟩ (by omega) (by (refine AS.sub.mk' _ _ (lk []) rfl rfl ?_ ?_ <;> repeat' (first | exact True.intro | rfl | exact Wk.refl _ | refine And.intro ?_ ?_)))
    by_cases h : j < i
    · exact hz j h
    · obtain rfl : j = i := by omega
      exact ⟨by omega, fun h => by omega⟩
  · ((try dsimp only [thenA, inBlockA]); refine FnPost.many (.inr rfl) (RetOK.hv rfl RetOK.nil) ?_; (try dsimp only [tup])); rw [decide_eq_true]; exact fun j hj => hz j (by omega)

/-- Where the predicate is first true. -/
def indexOf {α : Type} (p : α → Bool) : List α → Int
  | [] => -1
  | x :: r => if p x then 0 else if indexOf p r < 0 then -1 else indexOf p r + 1

theorem message_spec (size : Int) (d : Defect) : PSpec env 77 [d.av, .ref (.int .i64 size) 0] (.bool (decide ((0 ≤ d.id ∧ d.id ≤ 99) ∧ (0 ≤ d.stamp ∧ d.stamp ≤ 9999) ∧ 0 ≤ d.sector ∧ d.sector < size))) := by
  refine Spec.intro (nt := _) (rs := [_]) Tryz.func77 rfl rfl rfl rfl rfl [] (fun _ h => absurd rfl h) fun X => ?_
  repeat' (first | refine GoC.seq ?_ | refine GoC.region rfl ?_ | refine GoC.ret ?_ | refine GoOps.nil ?_ | refine GoOps.a rfl ?_ | refine GoOps.u rfl rfl rfl rfl ?_ | refine GoOps.gs rfl rfl rfl rfl ?_ | refine GoOps.m (OpL.boxw (by rfl) rfl rfl rfl rfl) ?_ | (refine GoOps.sd rfl rfl ?_ ?_ <;> intro _ <;> try contradiction))
  all_goals (((try dsimp only [thenA, inBlockA]); refine FnPost.many (.inr rfl) (RetOK.hv rfl RetOK.nil) ?_; (try dsimp only [tup])); simp [*])

def notMsg (size : Int) (d : Defect) : Bool := !decide ((0 ≤ d.id ∧ d.id ≤ 99) ∧ (0 ≤ d.stamp ∧ d.stamp ≤ 9999) ∧ 0 ≤ d.sector ∧ d.sector < size)
theorem notMsg_spec (size : Int) (d : Defect) : PSpec env 80 [d.av, .ref (.fn (.func 77) [] [.ref (.int .i64 size) 0]) 0] (.bool (notMsg size d)) := by
  refine Spec.intro (nt := _) (rs := [_]) Tryz.func80 rfl rfl rfl rfl rfl [] (fun _ h => absurd rfl h) fun X => ?_
  repeat' (first | refine GoC.seq ?_ | refine GoC.region rfl ?_ | refine GoC.ret ?_ | refine GoOps.nil ?_ | refine GoOps.a rfl ?_ | refine GoOps.m (OpL.boxw (by rfl) rfl rfl rfl rfl) ?_ | refine GoOps.p (OpL.call rfl rfl (message_spec size d) rfl rfl) ?_)
  ((try dsimp only [thenA, inBlockA]); refine FnPost.many (.inr rfl) (RetOK.hv rfl RetOK.nil) ?_; (try dsimp only [tup]))
  rfl

structure Shut (cap : List AV) : Prop where
  ren : ∀ ρ, AV.rens ρ cap = cap
  ids : ∀ S, AV.idsIns S cap = true
  no : AV.noIds cap = true

theorem IndexFunc_spec {g : Nat} {cap : List AV} (p : Defect → Bool) (hp : ∀ d, PSpec env g (d.av :: cap) (.bool (p d))) (hc : Shut cap) (c : Bool) (l : List Defect) : PSpec env 104 [.list c 3 (l.map Defect.av), .fn (.func g) [] cap] (.int .i64 (if l.any p then (l.findIdx p : Nat) else -1)) := by
  have hno := hc.no
  refine Spec.intro (nt := _) (rs := [_]) Tryz.func104 rfl rfl rfl rfl rfl [] (fun _ h => absurd rfl h) fun X => ?_
  refine GoC.bnd 0 rfl fun hb => ?_
  repeat' (first | refine GoC.seq ?_ | refine GoC.block ?_ | refine GoC.region rfl ?_ | refine GoOps.nil ?_ | refine GoOps.a rfl ?_ | refine GoOps.p (OpL.len rfl rfl) ?_)
  refine GoC.loop (G := Nat) (fun i => ⟨ofL .junk [(0, .list c 3 (l.map Defect.av)), (1, .fn (.func g) [] cap), (7, .int .i64 l.length), (8, .int .i64 i)], ofL .free [], []⟩)
    (fun i => i ≤ l.length ∧ ∀ j, j < i → p (l.getD j default) = false) (fun i => l.length - i) 0 ⟨Nat.zero_le _, fun j h => absurd h (Nat.not_lt_zero j)⟩ (by (refine AS.sub.mk' _ _ (lk []) rfl rfl ?_ ?_ <;> repeat' (first | exact True.intro | rfl | exact Wk.refl _ | refine And.intro ?_ ?_)) <;> first | exact Wk.of_eq (congrArg (AV.fn (.func g) []) (hc.ren _).symm) | exact hc.ids _) ?_
  rintro i ⟨hi1, hz⟩ R hR
  try dsimp only at *
  repeat' (first | refine GoC.seq ?_ | refine GoC.block ?_ | refine GoC.region rfl ?_ | refine GoC.skip ?_ | refine GoC.exit ?_ | refine GoC.ret ?_ | (refine GoC.cond_d rfl ?_ ?_ <;> intro _ <;> try contradiction) | refine GoOps.nil ?_ | refine GoOps.a rfl ?_ | refine GoOps.p (OpL.idx rfl rfl (by with_reducible exact rfl) rfl rfl rfl rfl (by (first | assumption | omega))) ?_)
  all_goals try (refine GoOps.p (OpL.call rfl rfl (hp _) hno rfl) ?_)
  repeat' (first | refine GoC.seq ?_ | refine GoC.region rfl ?_ | refine GoC.skip ?_ | refine GoC.ret ?_ | (refine GoC.cond rfl ?_ ?_ <;> intro _ <;> try contradiction) | refine GoOps.nil ?_ | refine GoOps.a rfl ?_ | refine GoOps.p (OpL.add rfl rfl (by (first | assumption | omega))) ?_)
  · rename_i h1 h2
    ((try dsimp only [thenA, inBlockA]); refine FnPost.many (.inr rfl) (RetOK.hv rfl RetOK.nil) ?_; (try dsimp only [tup]))
    have h3 : l.findIdx p = i := by
      rw [List.findIdx_eq (by omega)]
      refine ⟨by rwa [gd (by omega)] at h2, fun j hj => ?_⟩
      have := hz j hj
      rwa [gd (by omega)] at this
    have h4 : l.any p = true := List.any_eq_true.2 ⟨l[i]'(by omega), List.getElem_mem _, by rwa [gd (by omega)] at h2⟩
    rw [if_pos h4, h3]
  · rename_i h1 h2
    refine hR (i + 1) _ ⟨by omega, fun j hj => ?_⟩ (by omega) (by (refine AS.sub.mk' _ _ (lk []) rfl rfl ?_ ?_ <;> repeat' (first | exact True.intro | rfl | exact Wk.refl _ | refine And.intro ?_ ?_)) <;> first | exact Wk.of_eq (congrArg (AV.fn (.func g) []) (hc.ren _).symm) | exact hc.ids _)
    by_cases h : j < i
    · exact hz j h
    · obtain rfl : j = i := by omega
      exact h2
  · ((try dsimp only [thenA, inBlockA]); refine FnPost.many (.inr rfl) (RetOK.hv rfl RetOK.nil) ?_; (try dsimp only [tup]))
    have h4 : ¬ l.any p = true := by
      intro h
      obtain ⟨x, hx, hp'⟩ := List.any_eq_true.1 h
      obtain ⟨j, hj, rfl⟩ := List.mem_iff_getElem.1 hx
      have := hz j (by omega)
      rw [gd hj, hp'] at this
      cases this
    rw [if_neg h4]

theorem ContainsFunc_spec {g : Nat} {cap : List AV} (p : Defect → Bool) (hp : ∀ d, PSpec env g (d.av :: cap) (.bool (p d))) (hc : Shut cap) (c : Bool) (l : List Defect) : PSpec env 79 [.list c 3 (l.map Defect.av), .fn (.func g) [] cap] (.bool (l.any p)) := by
  have hno := hc.no
  refine Spec.intro (nt := _) (rs := [_]) Tryz.func79 rfl rfl rfl rfl rfl [] (fun _ h => absurd rfl h) fun X => ?_
  repeat' (first | refine GoC.seq ?_ | refine GoC.region rfl ?_ | refine GoOps.nil ?_ | refine GoOps.a rfl ?_)
  refine GoOps.p (OpL.call rfl rfl (IndexFunc_spec p hp hc c l) (by show (true && ((true && AV.noIds cap) && true)) = true; rw [hno]; rfl) rfl) ?_
  repeat' (first | refine GoC.ret ?_ | refine GoOps.nil ?_ | refine GoOps.a rfl ?_)
  ((try dsimp only [thenA, inBlockA]); refine FnPost.many (.inr rfl) (RetOK.hv rfl RetOK.nil) ?_; (try dsimp only [tup]))
  by_cases h : l.any p = true
  · simp [h]
  · simp [h]

def Format.form (f : Format) : Int := if f.disk.ok then (if formatP f then 0 else 30) else 10
theorem shut1 {x : AV} (h : x.noId = true) (hr : ∀ ρ, x.ren ρ = x) (hs : ∀ S, x.idsIn S = true) : Shut [x] := ⟨fun ρ => by simp [AV.rens, hr], fun S => by simp [AV.idsIns, hs], by simp [AV.noIds, h]⟩

theorem Fz.p1 {H : Nat → HO} {S : List Nat} {id t w i o : Nat} {l : List AV} {x : AV} (hS : S.contains id = true) (hH : H id = .arr t w l) (hi : l[i]? = some x) (hn : AV.noIds l = true) : Fz H S (.ptr id w i o) (.ref x o) := by
  obtain ⟨h1, h2⟩ := List.getElem?_eq_some_iff.1 hi
  have := Fz.ptr (H := H) (S := S) (o := o) (i := i) (by simpa using hS) hH (noIds_mem hn) h1
  rwa [gd h1, h2] at this

theorem SizeOk_spec {d : Disk} (h : d.ok) : PSpec env 43 [d.av] (.tuple [.int .i64 d.count, .int .i64 0]) := by
  have := Size_spec d
  rwa [if_pos h, if_pos h, size_count h.good] at this
theorem SizeNo_spec {d : Disk} (h : ¬ d.ok) : PSpec env 43 [d.av] (.tuple [.int .i64 0, .int .i64 10]) := by
  have := Size_spec d
  rwa [if_neg h, if_neg h] at this
theorem count_le {d : Disk} (hd : d.Good) : 0 ≤ d.count ∧ d.count ≤ 5120 := by
  have h := hd.cnt 4
  rwa [List.take_of_length_le hd.len.2] at h

theorem form_spec (f : Format) : PSpec env 59 [f.av] (.int .i64 f.form) := by
  by_cases hd : f.disk.ok
  · have hc := count_le hd.good
    refine Spec.intro (nt := _) (rs := [_]) Tryz.func59 rfl rfl rfl rfl rfl [] (fun _ h => absurd rfl h) fun X => ?_
    repeat' (first | refine GoC.seq ?_ | refine GoC.block ?_ | refine GoC.region rfl ?_ | refine GoC.skip ?_ | refine GoC.ret ?_ | refine GoC.cond_f rfl ?_ | (refine GoC.cond_d rfl ?_ ?_ <;> intro _ <;> try contradiction) | (refine GoC.cond_n rfl ?_ ?_ <;> intro _ <;> try contradiction) | refine GoOps.nil ?_ | refine GoOps.a rfl ?_ | refine GoOps.b rfl ?_ | refine GoOps.p (OpL.len rfl rfl) ?_ | refine GoOps.p (OpL.sub rfl rfl (by (first | assumption | omega))) ?_ | refine GoOps.m (OpL.boxw (by rfl) rfl rfl rfl rfl) ?_ | refine GoOps.n (OpL.st1 rfl) ?_ | refine GoOps.p (OpL.mkf rfl) ?_ | refine GoOps.p (OpL.call rfl rfl (SizeOk_spec hd) rfl rfl) ?_ | refine GoOps.p (OpL.call rfl rfl (ascending_spec _ f.primary _ _) rfl rfl) ?_)
    iterate 3 (· ((try dsimp only [thenA, inBlockA]); refine FnPost.many (.inr rfl) (RetOK.hv rfl RetOK.nil) ?_; (try dsimp only [tup])); rw [Format.form, if_pos hd, if_neg (by rintro ⟨h1, h2, h3, h4, h5⟩; omega)])
    · rename_i h1 h2 h3 h4
      ((try dsimp only [thenA, inBlockA]); refine FnPost.many (.inr rfl) (RetOK.hv rfl RetOK.nil) ?_; (try dsimp only [tup])); rw [Format.form, if_pos hd, if_neg]
      rintro ⟨_, _, _, h5, _⟩
      exact h4 h5
    · ((try dsimp only [thenA, inBlockA]); refine FnPost.many (.inr rfl) (RetOK.hv rfl RetOK.nil) ?_; (try dsimp only [tup])); rw [Format.form, if_pos hd, if_neg (by rintro ⟨h1, h2, h3, h4, h5⟩; omega)]
    · rename_i h1 h2 h3 h4 h5
      refine GoOps.sub (AS.sub.trans (AS.sub.frzo [3] [] [(5, .arr 118 1 [.fn (.func 77) [] [.ref (.int .i64 f.disk.count) 0]])] trivial ⟨⟨by decide, _, rfl, ElF.cons (Fz.fn1 (Fz.p1 rfl rfl rfl rfl)) (ElF.same _)⟩, trivial⟩)
        (AS.sub.frz [5] [(40, .fn (.func 80) [] [.ref (.fn (.func 77) [] [.ref (.int .i64 f.disk.count) 0]) 0])] ⟨Fz.fn1 (Fz.p1 rfl rfl rfl rfl), trivial⟩)) ?_
      repeat' (first | refine GoC.seq ?_ | refine GoC.region rfl ?_ | refine GoC.skip ?_ | refine GoC.ret ?_ | (refine GoC.cond rfl ?_ ?_ <;> intro _ <;> try contradiction) | refine GoOps.nil ?_ | refine GoOps.a rfl ?_ | refine GoOps.p (OpL.call rfl rfl (ContainsFunc_spec (notMsg f.disk.count) (notMsg_spec f.disk.count) (shut1 rfl (fun _ => rfl) (fun _ => rfl)) _ f.grown) rfl rfl) ?_)
      · rename_i h6
        ((try dsimp only [thenA, inBlockA]); refine FnPost.many (.inr rfl) (RetOK.hv rfl RetOK.nil) ?_; (try dsimp only [tup])); rw [Format.form, if_pos hd, if_neg]
        rintro ⟨_, _, _, _, h7⟩
        obtain ⟨x, hx, hp⟩ := List.any_eq_true.1 h6
        obtain ⟨j, hj, rfl⟩ := List.mem_iff_getElem.1 hx
        have h8 := h7 j hj
        simp only [nth] at h8
        rw [gd hj] at h8
        simp only [notMsg, Bool.not_eq_true', decide_eq_false_iff_not] at hp
        exact hp ⟨h8.1, h8.2.1, h8.2.2.1, by omega⟩
      · rename_i h6
        ((try dsimp only [thenA, inBlockA]); refine FnPost.many (.inr rfl) (RetOK.hv rfl RetOK.nil) ?_; (try dsimp only [tup])); rw [Format.form, if_pos hd, if_pos]
        refine ⟨by omega, by omega, by omega, h4, fun j hj => ?_⟩
        have h7 := List.any_eq_false.1 h6 _ (List.getElem_mem hj)
        simp only [notMsg, Bool.not_eq_true', decide_eq_false_iff_not, Decidable.not_not] at h7
        simp only [nth]
        rw [gd hj]
        exact ⟨h7.1, h7.2.1, h7.2.2.1, by omega⟩
  · refine Spec.intro (nt := _) (rs := [_]) Tryz.func59 rfl rfl rfl rfl rfl [] (fun _ h => absurd rfl h) fun X => ?_
    repeat' (first | refine GoC.seq ?_ | refine GoC.region rfl ?_ | refine GoC.ret ?_ | refine GoC.cond_t rfl ?_ | refine GoOps.nil ?_ | refine GoOps.a rfl ?_ | refine GoOps.b rfl ?_ | refine GoOps.m (OpL.boxw (by rfl) rfl rfl rfl rfl) ?_ | refine GoOps.n (OpL.st1 rfl) ?_ | refine GoOps.p (OpL.call rfl rfl (SizeNo_spec hd) rfl rfl) ?_)
    ((try dsimp only [thenA, inBlockA]); refine FnPost.many (.inr rfl) (RetOK.hv rfl RetOK.nil) ?_; (try dsimp only [tup])); rw [Format.form, if_neg hd]
end Go.Proofs.YtfbjoamdkieamaaGreat.AM
end

section
set_option linter.unusedSimpArgs false
set_option linter.unusedVariables false
set_option maxHeartbeats 8000000
namespace Go.Proofs.YtfbjoamdkieamaaGreat.AM
open Go

theorem RetOK.nl {E : Env} {s : AS} {t : Tmp} {rs : List ResultVar} {vs : List AV} {w : Nat} (c : Bool) (w' : Nat) (hh : hn (s.t t) = some ⟨[], [], .list true w []⟩) (h' : RetOK E s rs vs) : RetOK E s (.tmp t :: rs) (.list c w' [] :: vs) := by
  have h := hn_eq hh
  simp only [SR.mk.injEq, true_and] at h
  exact RetOK.tmp (by rw [← h]; exact Wk.nil c w') h'

theorem CloneInt_spec (c : Bool) (l : List Int) (hl : l.length ≤ 1000000) : PSpec env 62 [.list c 1 (l.map (.int .i64))] (.list false 1 (l.map (.int .i64))) := by
  refine Spec.intro (nt := _) (rs := [_]) Tryz.func62 rfl rfl rfl rfl rfl [] (fun _ h => absurd rfl h) fun X => ?_
  repeat' (first | refine GoC.seq ?_ | refine GoC.region rfl ?_ | refine GoC.skip ?_ | refine GoC.ret ?_ | refine GoC.cond_t rfl ?_ | refine GoC.cond_f rfl ?_ | refine GoOps.nil ?_ | refine GoOps.a rfl ?_ | refine GoOps.m (OpL.row rfl) ?_ | refine GoOps.m (OpL.appl rfl rfl rfl rfl rfl rfl rfl rfl rfl (fun _ => rfl) (by (first | rfl | omega | (simp only [List.length_take, List.length_drop, List.length_map, List.length_append, List.length_cons, List.length_nil] <;> omega))) (by (first | rfl | omega | (simp only [List.length_take, List.length_drop, List.length_map, List.length_append, List.length_cons, List.length_nil] <;> omega)))) ?_ | (refine GoOps.nilq rfl rfl ?_ ?_ <;> intro _))
  · rename_i h
    (try dsimp only [thenA, inBlockA])
    refine FnPost.by (.inr rfl) (AS.sub.refl _) (RetOK.nl false 1 rfl RetOK.nil) ?_
    rw [h]; rfl
  · refine FnPost.by (.inr rfl) (AS.sub.frz [7] [(2, .list false 1 (l.map (.int .i64)))] ⟨Fz.mp rfl rfl (fun _ => rfl) (by (first | rfl | omega | (simp only [List.length_take, List.length_drop, List.length_map, List.length_append, List.length_cons, List.length_nil] <;> omega))), trivial⟩) (RetOK.hv rfl RetOK.nil) ?_
    rfl

theorem CloneZone_spec (c : Bool) (l : List Zone) (hl : l.length ≤ 1000000) : PSpec env 61 [.list c 2 (l.map Zone.av)] (.list false 2 (l.map Zone.av)) := by
  refine Spec.intro (nt := _) (rs := [_]) Tryz.func61 rfl rfl rfl rfl rfl [] (fun _ h => absurd rfl h) fun X => ?_
  repeat' (first | refine GoC.seq ?_ | refine GoC.region rfl ?_ | refine GoC.skip ?_ | refine GoC.ret ?_ | refine GoC.cond_t rfl ?_ | refine GoC.cond_f rfl ?_ | refine GoOps.nil ?_ | refine GoOps.a rfl ?_ | refine GoOps.m (OpL.row rfl) ?_ | refine GoOps.m (OpL.appl rfl rfl rfl rfl rfl rfl rfl rfl rfl (fun _ => rfl) (by (first | rfl | omega | (simp only [List.length_take, List.length_drop, List.length_map, List.length_append, List.length_cons, List.length_nil] <;> omega))) (by (first | rfl | omega | (simp only [List.length_take, List.length_drop, List.length_map, List.length_append, List.length_cons, List.length_nil] <;> omega)))) ?_ | (refine GoOps.nilq rfl rfl ?_ ?_ <;> intro _))
  · rename_i h
    (try dsimp only [thenA, inBlockA])
    refine FnPost.by (.inr rfl) (AS.sub.refl _) (RetOK.nl false 2 rfl RetOK.nil) ?_
    rw [h]; rfl
  · refine FnPost.by (.inr rfl) (AS.sub.frz [7] [(2, .list false 2 (l.map Zone.av))] ⟨Fz.mp rfl rfl (fun _ => rfl) (by (first | rfl | omega | (simp only [List.length_take, List.length_drop, List.length_map, List.length_append, List.length_cons, List.length_nil] <;> omega))), trivial⟩) (RetOK.hv rfl RetOK.nil) ?_
    rfl

/-- A clone that one owns. -/
theorem CloneO_spec (c : Bool) (l : List Int) (hl : l.length ≤ 1000000) (h0 : l ≠ []) : Spec env 62 [.list c 1 (l.map (.int .i64))] (ofL .free []) (fun r H' => r = .sl false 7 1 0 (0 + (l.map (AV.int .i64)).length) ∧ ∀ p ∈ [(7, HO.arr 3 1 (l.map (.int .i64)))], H' p.1 = p.2) := by
  refine Spec.intro (nt := _) (rs := [_]) Tryz.func62 rfl rfl rfl rfl rfl [] (fun _ h => absurd rfl h) fun X => ?_
  repeat' (first | refine GoC.seq ?_ | refine GoC.region rfl ?_ | refine GoC.skip ?_ | refine GoC.ret ?_ | refine GoC.cond_t rfl ?_ | refine GoC.cond_f rfl ?_ | refine GoOps.nil ?_ | refine GoOps.a rfl ?_ | refine GoOps.m (OpL.row rfl) ?_ | refine GoOps.m (OpL.appl rfl rfl rfl rfl rfl rfl rfl rfl rfl (fun _ => rfl) (by (first | rfl | omega | (simp only [List.length_take, List.length_drop, List.length_map, List.length_append, List.length_cons, List.length_nil] <;> omega))) (by (first | rfl | omega | (simp only [List.length_take, List.length_drop, List.length_map, List.length_append, List.length_cons, List.length_nil] <;> omega)))) ?_ | (refine GoOps.nilq rfl rfl ?_ ?_ <;> intro _))
  · rename_i h
    exact absurd (List.map_eq_nil_iff.1 h) h0
  · ((try dsimp only [thenA, inBlockA]); refine FnPost.many (.inr rfl) (RetOK.hv rfl RetOK.nil) ?_; (try dsimp only [tup]))
    refine ⟨rfl, fun p hp => ?_⟩
    simp only [List.mem_singleton] at hp
    subst hp
    rfl

def copyF (f : Format) (p : List Int) (g : List Defect) : Format := { f with primary := p, grown := g }
theorem copied_spec (f : Format) (c : Bool) (p : List Int) (g : List Defect) (hz : f.disk.zones.length ≤ 1000) (hp : p.length ≤ 1000000) : PSpec env 39 [f.av, .list c 1 (p.map (.int .i64)), .list false 3 (g.map Defect.av)] (copyF f p g).av := by
  refine Spec.intro (nt := _) (rs := [_]) Tryz.func39 rfl rfl rfl rfl rfl [] (fun _ h => absurd rfl h) fun X => ?_
  repeat' (first | refine GoC.seq ?_ | refine GoC.region rfl ?_ | refine GoC.ret ?_ | refine GoOps.nil ?_ | refine GoOps.a rfl ?_ | refine GoOps.b rfl ?_ | refine GoOps.m (OpL.boxw (by rfl) rfl rfl rfl rfl) ?_ | refine GoOps.n (OpL.st1 rfl) ?_ | refine GoOps.p (OpL.call rfl rfl (CloneZone_spec _ f.disk.zones (by omega)) rfl rfl) ?_ | refine GoOps.p (OpL.call rfl rfl (CloneInt_spec _ p hp) rfl rfl) ?_)
  refine FnPost.by (.inr rfl) (AS.sub.refl _) (RetOK.cellF rfl rfl rfl rfl rfl RetOK.nil) ?_
  rfl
end Go.Proofs.YtfbjoamdkieamaaGreat.AM
end

section
namespace Go.Proofs
open Go.Shelf
def Tryz.lays189_ren : Go.Shelf.Ren := ⟨fun | 189 => 58 | 125 => 76 | 257 => 75 | 128 => 102 | 129 => 103 | 294 => 94 | 295 => 95 | 296 => 96 | 297 => 97 | 298 => 98 | 299 => 99 | 216 => 92 | 300 => 100 | 301 => 101 | 328 => 114 | 329 => 115 | 330 => 116 | 331 => 117 | 332 => 118 | 215 => 113 | 343 => 129 | n => n, fun | 28 => 27 | 3 => 3 | 46 => 117 | 0 => 0 | 51 => 140 | 53 => 142 | 4 => 4 | 183 => 135 | 182 => 134 | 131 => 111 | 5 => 5 | 9 => 9 | 218 => 153 | 222 => 157 | 228 => 163 | 229 => 164 | n => n, fun | n => n⟩
theorem Tryz.lays189 : Go.Proofs.Lays.n189 Tryz.prog Tryz.lays189_ren := {
  mixed := by kernel_rfl
  f125 := Tryz.func76.trans (congrArg some (by kernel_rfl))
  f128 := Tryz.func102.trans (congrArg some (by kernel_rfl))
  f129 := Tryz.func103.trans (congrArg some (by kernel_rfl))
  f189 := Tryz.func58.trans (congrArg some (by kernel_rfl))
  f215 := Tryz.func113.trans (congrArg some (by kernel_rfl))
  f216 := Tryz.func92.trans (congrArg some (by kernel_rfl))
  f257 := Tryz.func75.trans (congrArg some (by kernel_rfl))
  f294 := Tryz.func94.trans (congrArg some (by kernel_rfl))
  f295 := Tryz.func95.trans (congrArg some (by kernel_rfl))
  f296 := Tryz.func96.trans (congrArg some (by kernel_rfl))
  f297 := Tryz.func97.trans (congrArg some (by kernel_rfl))
  f298 := Tryz.func98.trans (congrArg some (by kernel_rfl))
  f299 := Tryz.func99.trans (congrArg some (by kernel_rfl))
  f300 := Tryz.func100.trans (congrArg some (by kernel_rfl))
  f301 := Tryz.func101.trans (congrArg some (by kernel_rfl))
  f328 := Tryz.func114.trans (congrArg some (by kernel_rfl))
  f329 := Tryz.func115.trans (congrArg some (by kernel_rfl))
  f330 := Tryz.func116.trans (congrArg some (by kernel_rfl))
  f331 := Tryz.func117.trans (congrArg some (by kernel_rfl))
  f332 := Tryz.func118.trans (congrArg some (by kernel_rfl))
  f343 := Tryz.func129.trans (congrArg some (by kernel_rfl))
  t0 := Tryz.underlying0
  a0 := Tryz.isAgg0
  z0 := Tryz.sizeOf0
  v0 := Tryz.zeroValue0
  t3 := Tryz.underlying3
  a3 := Tryz.isAgg3
  z3 := Tryz.sizeOf3
  v3 := Tryz.zeroValue3
  t4 := Tryz.underlying4
  a4 := Tryz.isAgg4
  z4 := Tryz.sizeOf4
  v4 := Tryz.zeroValue4
  t5 := Tryz.underlying5
  a5 := Tryz.isAgg5
  z5 := Tryz.sizeOf5
  v5 := Tryz.zeroValue5
  t9 := Tryz.underlying9
  a9 := Tryz.isAgg9
  z9 := Tryz.sizeOf9
  v9 := Tryz.zeroValue9
  t28 := Tryz.underlying27
  a28 := Tryz.isAgg27
  z28 := Tryz.sizeOf27
  v28 := Tryz.zeroValue27
  t46 := Tryz.underlying117
  a46 := Tryz.isAgg117
  z46 := Tryz.sizeOf117
  v46 := Tryz.zeroValue117
  t51 := Tryz.underlying140
  a51 := Tryz.isAgg140
  z51 := Tryz.sizeOf140
  v51 := Tryz.zeroValue140
  t53 := Tryz.underlying142
  a53 := Tryz.isAgg142
  z53 := Tryz.sizeOf142
  v53 := Tryz.zeroValue142
  t131 := Tryz.underlying111
  a131 := Tryz.isAgg111
  z131 := Tryz.sizeOf111
  v131 := Tryz.zeroValue111
  t182 := Tryz.underlying134
  a182 := Tryz.isAgg134
  z182 := Tryz.sizeOf134
  v182 := Tryz.zeroValue134
  t183 := Tryz.underlying135
  a183 := Tryz.isAgg135
  z183 := Tryz.sizeOf135
  v183 := Tryz.zeroValue135
  t218 := Tryz.underlying153
  a218 := Tryz.isAgg153
  z218 := Tryz.sizeOf153
  v218 := Tryz.zeroValue153
  t222 := Tryz.underlying157
  a222 := Tryz.isAgg157
  z222 := Tryz.sizeOf157
  v222 := Tryz.zeroValue157
  t228 := Tryz.underlying163
  a228 := Tryz.isAgg163
  z228 := Tryz.sizeOf163
  v228 := Tryz.zeroValue163
  t229 := Tryz.underlying164
  a229 := Tryz.isAgg164
  z229 := Tryz.sizeOf164
  v229 := Tryz.zeroValue164 }
def Tryz.laysNm225_ren : Go.Shelf.Ren := ⟨fun | 25 => 73 | 31 => 92 | 32 => 93 | 37 => 113 | n => n, fun | 22 => 27 | 3 => 3 | 4 => 4 | 40 => 117 | 0 => 0 | n => n, fun | n => n⟩
theorem Tryz.laysNm225 : Go.Proofs.Lays2.n25 Tryz.prog Tryz.laysNm225_ren := {
  mixed := by kernel_rfl
  f25 := Tryz.func73.trans (congrArg some (by kernel_rfl))
  f31 := Tryz.func92.trans (congrArg some (by kernel_rfl))
  f32 := Tryz.func93.trans (congrArg some (by kernel_rfl))
  f37 := Tryz.func113.trans (congrArg some (by kernel_rfl))
  t0 := Tryz.underlying0
  a0 := Tryz.isAgg0
  z0 := Tryz.sizeOf0
  v0 := Tryz.zeroValue0
  t3 := Tryz.underlying3
  a3 := Tryz.isAgg3
  z3 := Tryz.sizeOf3
  v3 := Tryz.zeroValue3
  t4 := Tryz.underlying4
  a4 := Tryz.isAgg4
  z4 := Tryz.sizeOf4
  v4 := Tryz.zeroValue4
  t22 := Tryz.underlying27
  a22 := Tryz.isAgg27
  z22 := Tryz.sizeOf27
  v22 := Tryz.zeroValue27
  t40 := Tryz.underlying117
  a40 := Tryz.isAgg117
  z40 := Tryz.sizeOf117
  v40 := Tryz.zeroValue117 }
def Tryz.laysNm223_ren : Go.Shelf.Ren := ⟨fun | 23 => 74 | n => n, fun | 22 => 27 | 3 => 3 | 4 => 4 | 0 => 0 | n => n, fun | n => n⟩
theorem Tryz.laysNm223 : Go.Proofs.Lays2.n23 Tryz.prog Tryz.laysNm223_ren := {
  mixed := by kernel_rfl
  f23 := Tryz.func74.trans (congrArg some (by kernel_rfl))
  t0 := Tryz.underlying0
  a0 := Tryz.isAgg0
  z0 := Tryz.sizeOf0
  v0 := Tryz.zeroValue0
  t3 := Tryz.underlying3
  a3 := Tryz.isAgg3
  z3 := Tryz.sizeOf3
  v3 := Tryz.zeroValue3
  t4 := Tryz.underlying4
  a4 := Tryz.isAgg4
  z4 := Tryz.sizeOf4
  v4 := Tryz.zeroValue4
  t22 := Tryz.underlying27
  a22 := Tryz.isAgg27
  z22 := Tryz.sizeOf27
  v22 := Tryz.zeroValue27
  i3 := by kernel_rfl }
def Tryz.laysSlF06_ren : Go.Shelf.Ren := ⟨fun | 6 => 83 | 15 => 76 | 14 => 106 | 28 => 102 | 29 => 103 | 20 => 90 | 21 => 119 | 22 => 120 | 23 => 121 | 24 => 122 | 25 => 123 | 26 => 124 | 27 => 125 | 46 => 130 | 47 => 115 | 48 => 116 | 49 => 131 | 50 => 132 | 57 => 133 | n => n, fun | 22 => 28 | 24 => 36 | 25 => 92 | 3 => 3 | 39 => 117 | 0 => 0 | 53 => 140 | 55 => 142 | 4 => 4 | 46 => 135 | 45 => 134 | 50 => 111 | 5 => 5 | 9 => 9 | 66 => 153 | 70 => 157 | 76 => 163 | 77 => 164 | n => n, fun | n => n⟩
theorem Tryz.laysSlF06 : Go.Proofs.SlLaysF0.n6 Tryz.prog Tryz.laysSlF06_ren := {
  mixed := by kernel_rfl
  f6 := ⟨Tryz.f83.name, by decide, Tryz.func83.trans (congrArg some (by kernel_rfl))⟩
  f14 := ⟨Tryz.f106.name, by decide, Tryz.func106.trans (congrArg some (by kernel_rfl))⟩
  f15 := Tryz.func76.trans (congrArg some (by kernel_rfl))
  f20 := ⟨Tryz.f90.name, by decide, Tryz.func90.trans (congrArg some (by kernel_rfl))⟩
  f21 := ⟨Tryz.f119.name, by decide, Tryz.func119.trans (congrArg some (by kernel_rfl))⟩
  f22 := ⟨Tryz.f120.name, by decide, Tryz.func120.trans (congrArg some (by kernel_rfl))⟩
  f23 := ⟨Tryz.f121.name, by decide, Tryz.func121.trans (congrArg some (by kernel_rfl))⟩
  f24 := ⟨Tryz.f122.name, by decide, Tryz.func122.trans (congrArg some (by kernel_rfl))⟩
  f25 := ⟨Tryz.f123.name, by decide, Tryz.func123.trans (congrArg some (by kernel_rfl))⟩
  f26 := ⟨Tryz.f124.name, by decide, Tryz.func124.trans (congrArg some (by kernel_rfl))⟩
  f27 := ⟨Tryz.f125.name, by decide, Tryz.func125.trans (congrArg some (by kernel_rfl))⟩
  f28 := Tryz.func102.trans (congrArg some (by kernel_rfl))
  f29 := Tryz.func103.trans (congrArg some (by kernel_rfl))
  f46 := ⟨Tryz.f130.name, by decide, Tryz.func130.trans (congrArg some (by kernel_rfl))⟩
  f47 := Tryz.func115.trans (congrArg some (by kernel_rfl))
  f48 := Tryz.func116.trans (congrArg some (by kernel_rfl))
  f49 := ⟨Tryz.f131.name, by decide, Tryz.func131.trans (congrArg some (by kernel_rfl))⟩
  f50 := ⟨Tryz.f132.name, by decide, Tryz.func132.trans (congrArg some (by kernel_rfl))⟩
  f57 := ⟨Tryz.f133.name, by decide, Tryz.func133.trans (congrArg some (by kernel_rfl))⟩
  t0 := Tryz.underlying0
  a0 := Tryz.isAgg0
  z0 := Tryz.sizeOf0
  v0 := Tryz.zeroValue0
  t3 := Tryz.underlying3
  a3 := Tryz.isAgg3
  z3 := Tryz.sizeOf3
  v3 := Tryz.zeroValue3
  t4 := Tryz.underlying4
  a4 := Tryz.isAgg4
  z4 := Tryz.sizeOf4
  v4 := Tryz.zeroValue4
  t5 := Tryz.underlying5
  a5 := Tryz.isAgg5
  z5 := Tryz.sizeOf5
  v5 := Tryz.zeroValue5
  t9 := Tryz.underlying9
  a9 := Tryz.isAgg9
  z9 := Tryz.sizeOf9
  v9 := Tryz.zeroValue9
  t22 := Tryz.underlying28
  a22 := Tryz.isAgg28
  z22 := Tryz.sizeOf28
  v22 := Tryz.zeroValue28
  t25 := Tryz.underlying92
  a25 := Tryz.isAgg92
  z25 := Tryz.sizeOf92
  v25 := Tryz.zeroValue92
  t39 := Tryz.underlying117
  a39 := Tryz.isAgg117
  z39 := Tryz.sizeOf117
  v39 := Tryz.zeroValue117
  t45 := Tryz.underlying134
  a45 := Tryz.isAgg134
  z45 := Tryz.sizeOf134
  v45 := Tryz.zeroValue134
  t46 := Tryz.underlying135
  a46 := Tryz.isAgg135
  z46 := Tryz.sizeOf135
  v46 := Tryz.zeroValue135
  t50 := Tryz.underlying111
  a50 := Tryz.isAgg111
  z50 := Tryz.sizeOf111
  v50 := Tryz.zeroValue111
  t53 := Tryz.underlying140
  a53 := Tryz.isAgg140
  z53 := Tryz.sizeOf140
  v53 := Tryz.zeroValue140
  t55 := Tryz.underlying142
  a55 := Tryz.isAgg142
  z55 := Tryz.sizeOf142
  v55 := Tryz.zeroValue142
  t66 := Tryz.underlying153
  a66 := Tryz.isAgg153
  z66 := Tryz.sizeOf153
  v66 := Tryz.zeroValue153
  t70 := Tryz.underlying157
  a70 := Tryz.isAgg157
  z70 := Tryz.sizeOf157
  v70 := Tryz.zeroValue157
  t76 := Tryz.underlying163
  a76 := Tryz.isAgg163
  z76 := Tryz.sizeOf163
  v76 := Tryz.zeroValue163
  t77 := Tryz.underlying164
  a77 := Tryz.isAgg164
  z77 := Tryz.sizeOf164
  v77 := Tryz.zeroValue164 }
def Tryz.laysNm84_ren : Go.Shelf.Ren := ⟨fun | 4 => 81 | n => n, fun | 22 => 28 | 25 => 36 | 3 => 3 | 4 => 4 | 9 => 9 | 20 => 20 | 0 => 0 | n => n, fun | n => n⟩
theorem Tryz.laysNm84 : Go.Proofs.Lays8.n4 Tryz.prog Tryz.laysNm84_ren := {
  mixed := by kernel_rfl
  f4 := ⟨Tryz.f81.name, by decide, Tryz.func81.trans (congrArg some (by kernel_rfl))⟩
  t0 := Tryz.underlying0
  a0 := Tryz.isAgg0
  z0 := Tryz.sizeOf0
  v0 := Tryz.zeroValue0
  t3 := Tryz.underlying3
  a3 := Tryz.isAgg3
  z3 := Tryz.sizeOf3
  v3 := Tryz.zeroValue3
  t4 := Tryz.underlying4
  a4 := Tryz.isAgg4
  z4 := Tryz.sizeOf4
  v4 := Tryz.zeroValue4
  t9 := Tryz.underlying9
  a9 := Tryz.isAgg9
  z9 := Tryz.sizeOf9
  v9 := Tryz.zeroValue9
  t20 := Tryz.underlying20
  a20 := Tryz.isAgg20
  z20 := Tryz.sizeOf20
  v20 := Tryz.zeroValue20
  t22 := Tryz.underlying28
  a22 := Tryz.isAgg28
  z22 := Tryz.sizeOf28
  v22 := Tryz.zeroValue28 }
end Go.Proofs
end

section
set_option linter.unusedSimpArgs false
set_option linter.unusedVariables false
set_option maxHeartbeats 8000000
namespace Go.Proofs.YtfbjoamdkieamaaGreat.AM
open Go Go.Proofs Go.Sort

theorem cmpId_calls (a b : Defect) (ha : 0 ≤ a.id ∧ a.id ≤ 1000000) (hb : 0 ≤ b.id ∧ b.id ≤ 1000000) (w : World) :
    Calls Tryz.prog 65 #[.agg #[.int .i64 a.id, .int .i64 a.stamp, .int .i64 a.sector], .agg #[.int .i64 b.id, .int .i64 b.stamp, .int .i64 b.sector]] w
      fun e w' => e = .returned (.int .i64 (a.id - b.id)) ∧ ∃ q os', w' = grow (w.drewN q) os' := by
  go_enter Tryz.func65, Tryz.ntmps65
  go_wp2
  go_ret
  refine ⟨rfl, 0, #[.cells #[.int .i64 a.id, .int .i64 a.stamp, .int .i64 a.sector] 36, .cells #[.int .i64 b.id, .int .i64 b.stamp, .int .i64 b.sector] 36], ?_⟩
  rw [alloc_eq_grow, alloc_eq_grow, grow_grow]
  rfl

/-! ### A call of a function by its contract -/
section
variable {E : Env} {T : Nat → AV} {H : Nat → HO} {d : Option Tmp} {ty : TypeId} {pos : String} {af : Array Edge} {g : Option (Nat × Bool)}
theorem wpIn_contract {f : FuncId} {F : Operand} {al : List Operand} {ats : Array TypeId} {a : Act} {fs cs : List Value} {w : World} {r : Option Nat} {n : Nat} {next : Act → World → Prop} {Q : Exit → Act → World → Prop}
    (h1 : a.eval F = .func (.func f) fs.toArray cs.toArray) (hc : ∃ fn, E.P.funcs[f]? = some fn ∧ fn.body.isSome = true ∧ (fn.name == "runtime.NumGoroutine") = false)
    (h : Calls E.P f (fs ++ al.map a.eval ++ cs).toArray w fun e w' => ∃ v, e = .returned v ∧ next (a.put d v) w') : Oper.wpIn (Wf r) n E.P ⟨d, .call { callee := .value F, args := al.toArray, argTypes := ats }, ty, pos, af, g⟩ a w next Q := by
  obtain ⟨fn, hfn, hbody, hname⟩ := hc
  refine ⟨fun _ _ => trivial, ?_⟩
  rw [Oper.semAt_eq _ _ _ (by simp), run_call h1 hfn hbody hname]
  refine ⟨fun h => by simp [Wf] at h, ?_⟩
  have h6 : CallsIn Fence.wide (n - 1) E.P f (fs ++ al.map a.eval ++ cs).toArray w fun e w' => ∃ v, e = .returned v ∧ next (a.put d v) w' := callsIn_wide.2 h
  have h7 : ∀ R, CallsIn Fence.wide (n - 1) E.P f (fs ++ al.map a.eval ++ cs).toArray w R → CallsIn (Wf r) (n - 1) E.P f (fs ++ al.map a.eval ++ cs).toArray w R := by
    cases r with
    | none => exact fun _ h => h
    | some l => exact fun _ h => CallsIn.inRound l h
  refine (h7 _ h6).mono fun e w' ⟨v, he, hn⟩ => ?_
  subst he
  exact hn
end

/-! ### Rows that a sort has turned -/
/-- Elements that are told by their cells. -/
structure Told {α : Type} (fa : α → AV) (enc : α → List Value) (k : Nat) : Prop where
  to : ∀ (m : Mem) (a : α) (v : Value), R m (fa a) v → v.cells.toList = enc a
  from_ : ∀ (a : α), ∃ v : Value, v.cells.toList = enc a ∧ ∀ m, R m (fa a) v
  len : ∀ a, (enc a).length = k
  one : ∀ a, ∀ v ∈ enc a, v.oneCell' = true

section
variable {α : Type} [Inhabited α] {fa : α → AV} {enc : α → List Value} {k : Nat}

theorem get_bang {β : Type} [Inhabited β] (l : List β) (i : Nat) (h : i < l.length) : l.toArray[i]! = l[i] := by simp [h]

theorem holdsK_of (hT : Told fa enc k) {m : Mem} {w : World} {blk t : Nat} {cs : Array Value} {xs : List α} (hb : w.heap[blk]? = some (.cells cs t (0, 0))) (hrow : RRow m cs k 0 (xs.map fa)) : HoldsK enc k w blk 0 xs.toArray := by
  intro j hj
  rw [size_flatK] at hj
  simp only [List.size_toArray] at hj
  have hk : 0 < k := by
    rcases Nat.eq_zero_or_pos k with h | h
    · rw [h] at hj; simp at hj
    · exact h
  have hi : j / k < xs.length := (Nat.div_lt_iff_lt_mul hk).2 hj
  obtain ⟨u, h1, h2, h3⟩ := RRow_get hrow (j / k) (by simpa using hi)
  have e : (xs.map fa).getD (j / k) .junk = fa xs[j / k] := by simp [List.getD_eq_getElem?_getD, hi]
  rw [e] at h1
  have h4 := hT.to m _ u h1
  have hmod : j % k < k := Nat.mod_lt _ hk
  have h5 := h3 (j % k) hmod
  have hj2 : 0 + j / k * k + j % k = j := by rw [Nat.zero_add, Nat.mul_comm]; exact Nat.div_add_mod j k
  rw [hj2, ← Array.getElem?_toList (xs := u.cells), h4] at h5
  have hget : (flatK enc k xs.toArray)[j]! = (enc xs[j / k])[j % k]! := by
    rw [get_flatK _ _ _ _ (by simpa using hj), get_bang xs _ hi]
  refine ⟨?_, by simp [World.frozen?, hb]⟩
  rw [hget, Nat.zero_add]
  simp only [World.cell?, hb]
  rw [h5, getElem!_pos (enc xs[j / k]) (j % k) (by rw [hT.len]; exact hmod)]
  simp [hT.len, hmod]

theorem rowK_of (hT : Told fa enc k) {m : Mem} {cs : Array Value} {xs : List α} {ys : List α} (hlen : ys.length = xs.length) (hsz : xs.length * k ≤ cs.size) : RRow m (putCells id 0 (flatK enc k ys.toArray) cs) k 0 (ys.map fa) := by
  rw [RRow_iff]
  intro i hi
  rw [List.length_map] at hi
  obtain ⟨v, hv1, hv2⟩ := hT.from_ ys[i]
  have e : (ys.map fa).getD i .junk = fa ys[i] := by simp [List.getD_eq_getElem?_getD, hi]
  rw [e]
  have hvs : v.cells.size = k := by rw [← Array.length_toList, hv1, hT.len]
  refine ⟨v, hv2 m, hvs, fun j hj => ?_⟩
  have hk : 0 < k := by omega
  have hik : (i + 1) * k ≤ xs.length * k := Nat.mul_le_mul_right _ (by omega)
  rw [Nat.succ_mul] at hik
  have hik2 : (i + 1) * k ≤ ys.length * k := Nat.mul_le_mul_right _ (by omega)
  rw [Nat.succ_mul] at hik2
  have hlt : 0 + i * k + j < cs.size := by omega
  have hd : (i * k + j) / k = i := by rw [Nat.mul_comm, Nat.mul_add_div hk, Nat.div_eq_of_lt hj]; rfl
  have hm : (i * k + j) % k = j := by rw [Nat.mul_comm, Nat.mul_add_mod, Nat.mod_eq_of_lt hj]
  have hget : (flatK enc k ys.toArray)[i * k + j]! = (enc ys[i])[j]! := by
    rw [get_flatK _ _ _ _ (by simp; omega), hm]
    simp only [hd]
    rw [get_bang ys _ hi]
  simp only [putCells, Array.getElem?_mapIdx]
  rw [Array.getElem?_eq_getElem hlt, Option.map_some, if_pos ⟨by omega, by simp only [size_flatK, List.size_toArray]; omega⟩]
  rw [show 0 + i * k + j - 0 = i * k + j by omega, hget, ← Array.getElem?_toList (xs := v.cells), hv1, List.getElem?_eq_getElem (by rw [hT.len]; exact hj)]
  rw [getElem!_pos (enc ys[i]) j (by rw [hT.len]; exact hj)]
  rfl

/-- The memory behind a sort of an object. -/
theorem MemOK.sorted (hT : Told fa enc k) {r0 : Nat → Option Obj} {w0 w : World} {mu : Nat → Prop} {m : Mem} {H : Nat → HO} (hM : MemOK r0 w0 mu m H w) {id t : Nat} {L : Loc} {xs ys : List α} (hH : H id = .arr t k (xs.map fa)) (hat : m.at_ id = some (some L)) (hlen : ys.length = xs.length) (q : Nat) (os : Array Obj) :
    MemOK r0 w0 mu m (upd H id (.arr t k (ys.map fa))) (sortWorldK enc k w L.blk 0 q ys.toArray os) := by
  have hlive : (H id).live = true := by rw [hH]; rfl
  have hob := hM.obj id
  rw [hH] at hob
  obtain ⟨ol, h1, h2, h3⟩ := hob
  rw [hat] at h1
  obtain ⟨cs, hb, hs, hle, hrow⟩ := h3 L (Option.some.inj h1).symm
  have hmine := hM.mine id L hlive hat
  have hlt := block_lt hb
  have hsize : w.heap.size ≤ (sortWorldK enc k w L.blk 0 q ys.toArray os).heap.size := size_sortWorldK_c enc k w L.blk 0 q ys.toArray os
  have hheap : ∀ b, b < w.heap.size → (sortWorldK enc k w L.blk 0 q ys.toArray os).heap[b]? = if L.blk = b then (w.heap[b]?).map (onCells (putCells _root_.id 0 (flatK enc k ys.toArray))) else w.heap[b]? := by
    intro b hbl
    show ((mapBlock (Sort.ahead w q) L.blk _).heap ++ os)[b]? = _
    rw [Array.getElem?_append_left (by simp [mapBlock, Sort.ahead]; exact hbl)]
    simp only [mapBlock, Sort.ahead, Array.getElem?_modify]
  refine hM.turn id (.arr t k (ys.map fa)) (fun b => b = L.blk) (Mem.le.refl m) rfl (fun _ _ => rfl) rfl rfl rfl hsize (fun b hbl hne => by rw [hheap b hbl, if_neg (fun h => hne h.symm)]) ?_ ?_ ?_
  · rintro b rfl
    exact ⟨hmine.1, hmine.2, fun i L' hi hlv hL' => hM.apart i id L' L hi hlv hlive hL' hat⟩
  · refine ⟨some L, hat, fun h => by simp at h, fun L' hL' => ?_⟩
    cases hL'
    rw [List.length_map] at hle
    have hxs : xs.length * k ≤ cs.size := by rw [hs]; exact Nat.mul_le_mul_right _ hle
    exact ⟨putCells _root_.id 0 (flatK enc k ys.toArray) cs, by rw [hheap _ hlt, if_pos rfl, hb]; rfl, by simp [putCells, hs], by simp [hlen]; exact hle, rowK_of hT hlen hxs⟩
  · intro _ L' hL'
    rw [hat] at hL'
    obtain rfl := Option.some.inj (Option.some.inj hL')
    exact ⟨hmine.1, hmine.2, fun i L'' hi hlv hL'' => hM.apart i id L'' L hi hlv hlive hL'' hat⟩
end
end Go.Proofs.YtfbjoamdkieamaaGreat.AM
end

section
set_option linter.unusedSimpArgs false
set_option linter.unusedVariables false
set_option maxHeartbeats 8000000
namespace Go.Proofs.YtfbjoamdkieamaaGreat.AM
open Go Go.Proofs Go.Sort

/-- A message whose Id and Stamp are in their bounds. -/
abbrev VD := { d : Defect // (0 ≤ d.id ∧ d.id ≤ 99) ∧ (0 ≤ d.stamp ∧ d.stamp ≤ 9999) }
instance : Inhabited VD := ⟨⟨⟨0, 0, 0⟩, by decide⟩⟩
def clampVD (d : Defect) : VD := if h : (0 ≤ d.id ∧ d.id ≤ 99) ∧ (0 ≤ d.stamp ∧ d.stamp ≤ 9999) then ⟨d, h⟩ else default
def encVD (d : VD) : List Value := [.int .i64 d.1.id, .int .i64 d.1.stamp, .int .i64 d.1.sector]
def inVD (l : List Defect) : Prop := ∀ d ∈ l, (0 ≤ d.id ∧ d.id ≤ 99) ∧ (0 ≤ d.stamp ∧ d.stamp ≤ 9999)
theorem clamp_map {l : List Defect} (h : inVD l) : (l.map clampVD).map (fun d => d.1) = l := by
  rw [List.map_map]
  conv => rhs; rw [← List.map_id l]
  refine List.map_congr_left fun d hd => ?_
  simp only [Function.comp, clampVD, dif_pos (h d hd), id]

theorem told_VD : Told (fun d : VD => d.1.av) encVD 3 where
  to m a v h := by
    obtain ⟨vs, rfl, v1, l1, rfl, h1, v2, l2, rfl, h2, v3, l3, rfl, h3, rfl⟩ := h
    have h1 : v1 = _ := h1
    have h2 : v2 = _ := h2
    have h3 : v3 = _ := h3
    subst h1 h2 h3
    rfl
  from_ a := ⟨.agg (encVD a).toArray, rfl, fun m => ⟨_, rfl, _, _, rfl, rfl, _, _, rfl, rfl, _, _, rfl, rfl, rfl⟩⟩
  len _ := rfl
  one a v h := by
    simp only [encVD, List.mem_cons, List.not_mem_nil, or_false] at h
    rcases h with rfl | rfl | rfl <;> rfl

def sortF {α : Type} [Inhabited α] (cf : α → α → Int) (xs : List α) : List α := (pdq (ltOf cf) xs.toArray 0 xs.length (Lib.bitLen xs.length) true true).toList
theorem sortF_props {α : Type} [Inhabited α] {cf : α → α → Int} (hO : SWO (ltOf cf)) (xs : List α) : PermIn 0 xs.length xs.toArray (sortF cf xs).toArray ∧ SortedIn (ltOf cf) 0 xs.length (sortF cf xs).toArray := by
  have h := pdq_sorts (ltOf cf) hO xs.toArray 0 xs.length (Lib.bitLen xs.length) true true (Nat.zero_le _) (by simp) (Or.inl rfl)
  simpa [sortF] using h
theorem sortF_length {α : Type} [Inhabited α] {cf : α → α → Int} (hO : SWO (ltOf cf)) (xs : List α) : (sortF cf xs).length = xs.length := by
  have := (sortF_props hO xs).1.1
  simpa using this
theorem sortF_perm {α : Type} [Inhabited α] {cf : α → α → Int} (hO : SWO (ltOf cf)) (xs : List α) : (sortF cf xs).Perm xs := by
  have h := (sortF_props hO xs).1.2.2
  have hl := sortF_length hO xs
  have e1 : (sortF cf xs).toArray.extract 0 xs.length = (sortF cf xs).toArray := by rw [← hl]; simp
  have e2 : xs.toArray.extract 0 xs.length = xs.toArray := by simp
  rw [e1, e2] at h
  exact h

def cfId (a b : VD) : Int := a.1.id - b.1.id
theorem ltOf_cfId (x y : VD) : ltOf cfId x y = decide (x.1.id < y.1.id) := by
  show decide (x.1.id - y.1.id < 0) = _
  congr 1
  exact propext ⟨fun h => by omega, fun h => by omega⟩
theorem swo_cfId : SWO (ltOf cfId) where
  irrefl x := by rw [ltOf_cfId]; simp
  trans x y z h h' := by rw [ltOf_cfId, decide_eq_true_eq] at *; omega
  ntrans x y z h h' := by rw [ltOf_cfId, decide_eq_false_iff_not] at *; omega

def sortId (xs : List Defect) : List Defect := (sortF cfId (xs.map clampVD)).map fun d => d.1
theorem sortId_perm {xs : List Defect} (h : inVD xs) : (sortId xs).Perm xs := by
  have := (sortF_perm swo_cfId (xs.map clampVD)).map (fun d : VD => d.1)
  rwa [clamp_map h] at this
theorem sortId_sorted (xs : List Defect) : (sortId xs).Pairwise (fun a b => a.id ≤ b.id) := by
  have h := (sortF_props swo_cfId (xs.map clampVD)).2
  have hl := sortF_length swo_cfId (xs.map clampVD)
  rw [List.pairwise_iff_getElem]
  intro i j hi hj hij
  simp only [sortId, List.length_map] at hi hj
  have h2 := h i j (Nat.zero_le _) hij (by omega)
  simp only [sortId, List.getElem_map]
  rw [get_bang _ _ hi, get_bang _ _ hj] at h2
  rw [ltOf_cfId, decide_eq_false_iff_not] at h2
  omega

theorem cmpId_code : ∀ args w, (callFunc 65 args).run Tryz.prog w = .ok (.enter 65 args) w := enters_of Tryz.func65 rfl rfl

section
variable {T : Nat → AV} {H : Nat → HO} {d : Option Tmp} {ty : TypeId} {pos : String} {af : Array Edge} {g : Option (Nat × Bool)}

/-- slices.SortFunc by Ids. -/
theorem OpL.sortId {F S C : Operand} {ats : Array TypeId} {c : Bool} {id len t : Nat} {xs : List Defect} (hF : ev T F = .fn (.func 83) [] []) (hs : ev T S = .sl c id 3 0 len) (hC : ev T C = .fn (.func 65) [] [])
    (hH : H id = .arr t 3 (xs.map Defect.av)) (hlen : len = xs.length) (hsz : xs.length ≤ 1000000) (hv : inVD xs) : OpL env ⟨d, .call { callee := .value F, args := #[S, C], argTypes := ats }, ty, pos, af, g⟩ T H [id] [(id, .arr t 3 ((AM.sortId xs).map Defect.av))] (.tuple []) := by
  refine ⟨fun r n m a w r0 w0 mu H' next Q hT hM hr hn => ?_⟩
  have h1 := hT F (by simp [Op.operands, Call.operands]); rw [hF] at h1
  have h2 := hT S (by simp [Op.operands, Call.operands]); rw [hs] at h2
  have h3 := hT C (by simp [Op.operands, Call.operands]); rw [hC] at h3
  obtain ⟨fs, cs, h1, rfl, rfl⟩ := h1
  obtain ⟨fs2, cs2, h3, rfl, rfl⟩ := h3
  have hH' : H' id = .arr t 3 (xs.map Defect.av) := by rw [hr id (by simp)]; exact hH
  have e : xs.map Defect.av = (xs.map clampVD).map (fun d : VD => d.1.av) := by
    conv => lhs; rw [← clamp_map hv]
    rw [List.map_map]; rfl
  have e2 : (AM.sortId xs).map Defect.av = (sortF cfId (xs.map clampVD)).map (fun d : VD => d.1.av) := by rw [AM.sortId, List.map_map]; rfl
  have hl := sortF_length swo_cfId (xs.map clampVD)
  have hs0 : (#[S, C] : Array Operand) = [S, C].toArray := rfl
  rw [hs0]
  refine wpIn_contract (al := [S, C]) (fs := []) (cs := []) h1 ⟨_, Tryz.func83, rfl, rfl⟩ ?_
  simp only [List.nil_append, List.map_cons, List.map_nil, List.append_nil]
  rw [h3]
  obtain ⟨ol, h4, h5, h6⟩ := h2
  have hnone : xs = [] → ∀ p cap, a.eval S = .slice p 0 cap → Calls env.P 83 [a.eval S, .func (.func 65) #[] #[]].toArray w fun e w' => ∃ v, e = .returned v ∧ next (a.put d v) w' := by
    intro hx p cap hp
    rw [hp]
    refine (AnyF.slices_SortFunc_none Tryz.laysSlF06 p cap (.func (.func 65) #[] #[]) w).mono ?_
    rintro e w' ⟨rfl, rfl⟩
    refine ⟨_, rfl, hn m _ w' (Mem.le.refl m) ?_ ⟨[], rfl, rfl⟩⟩
    have : AM.sortId xs = xs := by
      subst hx
      exact List.eq_nil_of_length_eq_zero (by simpa [AM.sortId] using hl)
    rw [this]
    have hu : updL H' [(id, .arr t 3 (xs.map Defect.av))] = H' := by
      funext i
      simp only [updL]
      by_cases hi : i = id
      · subst hi; rw [upd_same, hH']
      · rw [upd_ne _ _ _ _ hi]
    rw [hu]; exact hM
  by_cases hx : xs = []
  · subst hx
    cases ol with
    | none => obtain ⟨h5, _, _⟩ := h5; exact hnone rfl none 0 h5
    | some L =>
      obtain ⟨ad, h5, _⟩ := h5
      rw [hlen] at h5
      exact hnone rfl (some ad) (L.cap - 0) h5
  · have hpos : 0 < xs.length := List.length_pos_iff.2 hx
    cases ol with
    | none => obtain ⟨_, h7, _⟩ := h5; omega
    | some L =>
      obtain ⟨ad, h7, h8, h9, h10⟩ := h5
      have had := h10 (by omega)
      rw [Nat.zero_mul] at had
      subst had
      have hob := hM.obj id
      rw [hH', e] at hob
      obtain ⟨ol2, k1, _, k3⟩ := hob
      rw [h4] at k1
      obtain ⟨cells, hb, hcs, hle, hrow⟩ := k3 L (Option.some.inj k1).symm
      have hH2 : H' id = .arr t 3 ((xs.map clampVD).map (fun d : VD => d.1.av)) := by rw [hH', e]
      have key := AnyQ.slices_SortFunc_eq Tryz.laysSlF06 3 (fun w => Env.run_isAgg (E := env) (t := 36) (by decide) w) (fun w => Env.run_sizeOf (E := env) (t := 36) (by decide) w) encVD (fun _ => rfl) told_VD.one cfId swo_cfId 65 #[] L.blk 0 (L.cap - 0) (xs.map clampVD).toArray w cmpId_code
        (fun q os dk _ x y => by
          have := cmpId_calls x.1 y.1 ⟨x.2.1.1, by have := x.2.1.2; omega⟩ ⟨y.2.1.1, by have := y.2.1.2; omega⟩ (sortWorldK encVD 3 w L.blk 0 q dk os)
          exact this)
        (holdsK_of told_VD hb hrow) (block_lt hb) (by simp; omega)
      rw [h7, hlen]
      have hsz2 : (xs.map clampVD).toArray.size = xs.length := by simp
      rw [hsz2] at key
      refine key.mono ?_
      rintro e' w' ⟨rfl, q, os, rfl⟩
      have hM' := hM.sorted told_VD hH2 h4 hl q os
      refine ⟨_, rfl, hn m _ _ (Mem.le.refl m) ?_ ⟨[], rfl, rfl⟩⟩
      simp only [updL]
      rw [e2]
      have : (sortF cfId (xs.map clampVD)).toArray = pdq (ltOf cfId) (xs.map clampVD).toArray 0 xs.length (Lib.bitLen xs.length) true true := by simp [sortF]
      rw [this] at hM'
      exact hM'
end
end Go.Proofs.YtfbjoamdkieamaaGreat.AM
end

section
set_option linter.unusedSimpArgs false
set_option linter.unusedVariables false
set_option maxHeartbeats 8000000
namespace Go.Proofs.YtfbjoamdkieamaaGreat.AM
open Go Go.Proofs Go.Sort

section
variable {T : Nat → AV} {H : Nat → HO} {d : Option Tmp} {ty : TypeId} {pos : String} {af : Array Edge} {g : Option (Nat × Bool)}

/-- slices.Grow of a nil slice. -/
theorem OpL.growD {F S N : Operand} {ats : Array TypeId} {w1 : Nat} {n : Int} (hF : ev T F = .fn (.func 81) [] []) (hs : ev T S = .list true w1 []) (hN : ev T N = .int .i64 n)
    (hn0 : 0 ≤ n ∧ n ≤ 1000000) (hf : H (idOf d) = .free) : OpL env ⟨d, .call { callee := .value F, args := #[S, N], argTypes := ats }, ty, pos, af, g⟩ T H [idOf d] [(idOf d, .arr 36 3 [])] (.sl false (idOf d) 3 0 0) := by
  refine ⟨fun r nn m a w r0 w0 mu H' next Q hT hM hr hn => ?_⟩
  have h1 := hT F (by simp [Op.operands, Call.operands]); rw [hF] at h1
  have h2 := hT S (by simp [Op.operands, Call.operands]); rw [hs] at h2
  have h3 := hT N (by simp [Op.operands, Call.operands]); rw [hN] at h3
  obtain ⟨fs, cs, h1, rfl, rfl⟩ := h1
  obtain ⟨ad, cap, h2, _, _, h4, _⟩ := h2
  obtain ⟨rfl, rfl⟩ := h4 rfl rfl
  have h3 : a.eval N = .int .i64 n := h3
  have hf' : H' (idOf d) = .free := by rw [hr _ (by simp)]; exact hf
  have hnone : m.at_ (idOf d) = none := by have := hM.obj (idOf d); rw [hf'] at this; exact this
  obtain ⟨k, rfl⟩ : ∃ k : Nat, n = (k : Int) := ⟨n.toNat, by omega⟩
  have hs0 : (#[S, N] : Array Operand) = [S, N].toArray := rfl
  rw [hs0]
  refine wpIn_contract (al := [S, N]) (fs := []) (cs := []) h1 ⟨_, Tryz.func81, rfl, rfl⟩ ?_
  simp only [List.nil_append, List.map_cons, List.map_nil, List.append_nil]
  rw [h2, h3]
  have hke : (env.td 36).kind ≠ .other := by decide
  obtain ⟨u, inf, z, _, hi, _, hsz, hby, hz, _, hzs⟩ := Env.facts (E := env) hke
  have hs3 : inf.size = 3 := hsz
  have hb24 : inf.bytes = 24 := hby
  have hz3 : z.cells.size = 3 := hzs
  by_cases hk : k = 0
  · subst hk
    refine (Any8.slices_Grow_room Tryz.laysNm84 none 0 0 0 w (Nat.le_refl _) (by omega) (by omega) (by omega)).mono ?_
    rintro e w' ⟨rfl, rfl⟩
    have hle : m.le (m.bind (idOf d) none) := Mem.le_bind hnone
    refine ⟨_, rfl, hn _ _ w' hle ?_ ⟨none, Mem.bind_at _ _ _, ⟨rfl, rfl, rfl⟩, fun h => by cases h⟩⟩
    exact hM.turn (idOf d) (.arr 36 3 []) (fun _ => False) hle rfl (fun i hi => by simp [Mem.bind, hi]) rfl rfl rfl (Nat.le_refl _) (fun _ _ _ => rfl) (fun _ h => h.elim)
        ⟨none, by simp [Mem.bind], fun _ => rfl, fun L hL => by cases hL⟩ (fun _ L hL => by simp [Mem.bind] at hL)
  · have key := Any8.slices_Grow_grow Tryz.laysNm84 inf z hi hz (by omega) none 0 0 k [] w (Nat.le_refl _) (by omega) (by rw [hb24]; omega) (by omega) (by simp) (fun _ => rfl) (fun a h => by cases h)
    have ht25 : Tryz.laysNm84_ren.t 25 = 36 := rfl
    rw [ht25] at key
    refine key.mono ?_
    rintro e w' ⟨rfl, rfl⟩
    have hcapge : 0 + k ≤ grownCap w (0 + k) 0 36 := by simp [grownCap, Question.cut]
    have hcaple := grownCap_le_maxLen w (0 + k) 0 36 (by unfold maxLen; omega)
    generalize grownCap w (0 + k) 0 36 = gc at *
    obtain ⟨hle, hM'⟩ := hM.drew.new hf' 36 3 gc [] ((([] : List Value)).toArray ++ Builtin.zeroCells z.cells (0 + k - 0) ++ Builtin.zeroCells z.cells (gc - (0 + k)))
      (by simp only [Array.size_append, size_zeroCells', hz3, List.size_toArray, List.length_nil]; omega) (Nat.zero_le _) trivial
    refine ⟨_, rfl, hn _ _ _ hle hM' ⟨some ⟨w.heap.size, gc⟩, Mem.bind_at _ _ _, ⟨⟨w.heap.size, 0, none⟩, by simp, Nat.zero_le _, hcaple, fun _ => by simp⟩, fun h => by cases h⟩⟩
end

def defs (l : List Defect) : AV := .list false 3 (l.map Defect.av)

theorem flat_take {l : List (List Defect)} {i : Nat} (h : i < l.length) : (l.take (i + 1)).flatten = (l.take i).flatten ++ l.getD i default := by
  rw [gd h, List.take_add_one, List.getElem?_eq_getElem h, List.flatten_append]
  simp only [Option.toList_some, List.flatten_cons, List.flatten_nil, List.append_nil]

theorem Concat_spec (ls : List (List Defect)) (hl : ls.length ≤ 10) (ht : ls.flatten.length ≤ 1000) : PSpec env 60 [.list false 1 (ls.map defs)] (defs ls.flatten) := by
  refine Spec.intro (nt := _) (rs := [_]) Tryz.func60 rfl rfl rfl rfl rfl [] (fun _ h => absurd rfl h) fun X => ?_
  have hlen : ∀ i, (ls.take i).flatten.length ≤ 1000 := fun i => by
    have : ls.flatten = (ls.take i).flatten ++ (ls.drop i).flatten := by rw [← List.flatten_append, List.take_append_drop]
    rw [this, List.length_append] at ht
    omega
  repeat' (first | refine GoC.seq ?_ | refine GoC.block ?_ | refine GoC.region rfl ?_ | refine GoOps.nil ?_ | refine GoOps.a rfl ?_ | refine GoOps.p (OpL.len rfl rfl) ?_)
  refine GoC.loop (G := Nat) (fun i => ⟨ofL .junk [(0, .list false 1 (ls.map defs)), (3, .int .i64 (ls.take i).flatten.length), (9, .list false 1 (ls.map defs)), (10, .int .i64 ls.length), (11, .int .i64 i)], ofL .free [], []⟩)
    (fun i => i ≤ ls.length) (fun i => ls.length - i) 0 (Nat.zero_le _) (by (refine AS.sub.mk' _ _ (lk []) rfl rfl ?_ ?_ <;> repeat' (first | exact True.intro | rfl | exact Wk.refl _ | refine And.intro ?_ ?_))) ?_
  intro i hi R hR
  have hx : i < ls.length → (ls.take (i + 1)).flatten.length = (ls.take i).flatten.length + (ls.getD i default).length := fun h => by rw [flat_take h, List.length_append]
  have h1 := hlen i
  have h2 := hlen (i + 1)
  repeat' (first | refine GoC.seq ?_ | refine GoC.block ?_ | refine GoC.region rfl ?_ | refine GoC.skip ?_ | refine GoC.exit ?_ | refine GoC.cond_f rfl ?_ | (refine GoC.cond_d rfl ?_ ?_ <;> intro _ <;> try contradiction) | refine GoOps.nil ?_ | refine GoOps.a rfl ?_ | refine GoOps.p (OpL.len rfl rfl) ?_ | refine GoOps.p (OpL.idx rfl rfl (by with_reducible exact rfl) rfl rfl rfl rfl (by (first | assumption | omega))) ?_ | refine GoOps.p (OpL.add rfl rfl (by (first | assumption | omega))) ?_)
  · exact hR (i + 1) _ (by omega) (by omega) (by (refine AS.sub.mk' _ _ (lk []) rfl rfl ?_ ?_ <;> repeat' (first | exact True.intro | rfl | exact Wk.refl _ | exact Wk.of_eq (congrArg (AV.int .i64) (by omega)) | refine And.intro ?_ ?_)))
  · have e : i = ls.length := by omega
    subst e
    rw [List.take_length] at *
    refine GoOps.m (OpL.growD rfl rfl rfl (by omega) rfl) ?_
    repeat' (first | refine GoC.seq ?_ | refine GoC.block ?_ | refine GoC.region rfl ?_ | refine GoOps.nil ?_ | refine GoOps.a rfl ?_ | refine GoOps.p (OpL.len rfl rfl) ?_)
    refine GoC.loop (G := Nat) (fun i => ⟨ofL .junk [(6, .sl false 1000006 3 0 (ls.take i).flatten.length), (25, .list false 1 (ls.map defs)), (26, .int .i64 ls.length), (27, .int .i64 i)], ofL .free [(1000006, .arr 36 3 ((ls.take i).flatten.map Defect.av))], []⟩)
      (fun i => i ≤ ls.length) (fun i => ls.length - i) 0 (Nat.zero_le _) (by refine AS.sub.mk' _ _ (lk [(1000006, 24)]) rfl rfl ?_ ?_ <;> repeat' (first | exact True.intro | rfl | exact Wk.refl _ | exact ⟨_, rfl, Elems.all rfl⟩ | refine And.intro ?_ ?_)) ?_
    intro i hi R hR
    have hx : i < ls.length → (ls.take (i + 1)).flatten.length = (ls.take i).flatten.length + (ls.getD i default).length := fun h => by rw [flat_take h, List.length_append]
    have h1 := hlen i
    have h2 := hlen (i + 1)
    repeat' (first | refine GoC.seq ?_ | refine GoC.block ?_ | refine GoC.region rfl ?_ | refine GoC.skip ?_ | refine GoC.exit ?_ | refine GoC.ret ?_ | (refine GoC.cond_d rfl ?_ ?_ <;> intro _ <;> try contradiction) | refine GoOps.nil ?_ | refine GoOps.a rfl ?_ | refine GoOps.p (OpL.idx rfl rfl (by with_reducible exact rfl) rfl rfl rfl rfl (by (first | assumption | omega))) ?_ | refine GoOps.p (OpL.add rfl rfl (by (first | assumption | omega))) ?_ | refine GoOps.m (OpL.appl rfl rfl rfl rfl rfl rfl rfl rfl rfl (fun _ => rfl) (by (first | rfl | omega | (simp only [List.length_take, List.length_drop, List.length_map, List.length_append, List.length_cons, List.length_nil] <;> omega))) (by (first | rfl | omega | (simp only [List.length_take, List.length_drop, List.length_map, List.length_append, List.length_cons, List.length_nil] <;> omega)))) ?_)
    · refine hR (i + 1) _ (by omega) (by omega) ?_
      rw [flat_take (l := ls) (i := i) (by omega)]
      refine AS.sub.mk' _ _ (lk [(1000006, 33)]) rfl rfl ?_ ?_ <;> repeat' (first | exact True.intro | rfl | exact Wk.refl _ | exact Wk.of_eq (congrArg (AV.sl _ _ _ _) (by (first | rfl | omega | (simp only [List.length_take, List.length_drop, List.length_map, List.length_append, List.length_cons, List.length_nil] <;> omega)))) | exact ⟨_, rfl, Elems.of_eq List.map_append.symm (noId_map (fun _ => rfl) _)⟩ | refine And.intro ?_ ?_)
    · have e : i = ls.length := by omega
      subst e
      rw [List.take_length]
      refine FnPost.by (.inr rfl) (AS.sub.frz [1000006] [(2, .list false 3 (ls.flatten.map Defect.av))] ⟨Fz.mp rfl rfl (fun _ => rfl) (by (first | rfl | omega | (simp only [List.length_take, List.length_drop, List.length_map, List.length_append, List.length_cons, List.length_nil] <;> omega))), trivial⟩) (RetOK.hv rfl RetOK.nil) ?_
      rfl
end Go.Proofs.YtfbjoamdkieamaaGreat.AM
end

section
set_option linter.unusedSimpArgs false
set_option linter.unusedVariables false
namespace Go.Proofs.YtfbjoamdkieamaaGreat.AM
open Go
/-- A call that is handed objects, and hands back objects and a value that are one of several. -/
theorem GoOps.callZ {E : Env} {X : Ctx} {nt : Nat} {ops : Array Oper} {ol : List Oper} {K : AS → Prop} {T : Nat → AV} {H : Nat → HO} {k : List Nat} {i : Nat} {ty : TypeId} {pos : String} {af : Array Edge} {F : Operand} {As : Array Operand} {ats : Array TypeId} {f : FuncId} {first cap : List AV} {asl : List Operand} {args : List AV} {ins : List (Nat × HO)} {ζ : Type} {φ : ζ → Prop} {outs post : ζ → List (Nat × HO)} {v v' : ζ → AV} (ρ : Nat → Nat) (hAs : As = asl.toArray) (hF : ev T F = .fn (.func f) first cap)
    (hS : Spec E f args (ofL .free ins) (fun r H' => ∃ z, φ z ∧ r = v z ∧ ∀ p ∈ outs z, H' p.1 = p.2)) (hargs : first ++ asl.map (ev T) ++ cap = AV.rens ρ args) (hai : AV.idsIns (keys ins) args = true) (hin : InOK H ρ (keys ins) ins)
    (hinji : inj ρ (keys ins) = true) (hinj : ∀ z, φ z → inj ρ (keys (outs z)) = true) (hio : ∀ z, φ z → (keys ins).all (fun i => (keys (outs z)).contains i) = true) (hpost : ∀ z, φ z → PostOK H ρ (keys ins) (keys (outs z)) (outs z) (post z)) (hvi : ∀ z, φ z → (v z).idsIn (keys (outs z)) = true) (hv : ∀ z, φ z → (v z).ren ρ = v' z)
    (hK : ∀ z, φ z → GoOps E X nt ops ol K ⟨upd T i (v' z), updL H (post z), k⟩) : GoOps E X nt ops (⟨some i, .call { callee := .value F, args := As, argTypes := ats }, ty, pos, af, none⟩ :: ol) K ⟨T, H, k⟩ := by
  subst hAs
  refine ⟨fun hl Q' a w hQ hD => ?_⟩
  obtain ⟨hd, hl⟩ := dstsLt_cons hl
  obtain ⟨m, hD⟩ := hD
  have hM : MemOK X.m0.ro X.w0 X.mu m H w := hD.mem
  have hT : ∀ Y, R m (ev T Y) (a.eval Y) := hD.evals
  have h1 := hT F
  rw [hF] at h1
  obtain ⟨fs, cs, h1, h2, h3⟩ := h1
  have h4 : RS m (asl.map (ev T)) (asl.map a.eval) := RS_map_ev asl fun Y _ => hT Y
  have h5 : RS m (first ++ asl.map (ev T) ++ cap) (fs ++ asl.map a.eval ++ cs) := RS_append (RS_append h2 h4) h3
  rw [hargs] at h5
  have hMC := hM.callIn hin (fun i j hi hj h => inj_iff hinji hi hj h)
  have h50 := RS_ren (m := m) (m' := ⟨m.ro, fun i => if (keys ins).contains i = true then m.at_ (ρ i) else none⟩) (ρ := ρ) (S := keys ins) (fun _ _ h => h) (fun i x hi h => by simp only [hi, if_true]; exact h) _ _ hai h5
  have h6 := hS.run (X.n - 1) _ w _ hMC h50
  obtain ⟨fn, hfn, hbody, hname⟩ := hS.code
  refine wpListIn_plain rfl fun K' hK' => ?_
  refine ⟨fun _ _ => trivial, ?_⟩
  rw [Oper.semAt_eq _ _ _ (by simp), run_call h1 hfn hbody hname]
  refine ⟨fun h => by simp [Wf] at h, ?_⟩
  have h7 : ∀ R, CallsIn Fence.wide (X.n - 1) E.P f (fs ++ asl.map a.eval ++ cs).toArray w R → CallsIn (Wf X.r) (X.n - 1) E.P f (fs ++ asl.map a.eval ++ cs).toArray w R := by
    cases X.r with
    | none => exact fun _ h => h
    | some l => exact fun _ h => CallsIn.inRound l h
  refine (h7 _ h6).mono fun e w' ⟨u, rr, Hc, mc, he, ⟨z, hz, hq1, hq2⟩, hle, hC, hR⟩ => ?_
  subst he hq1
  have hinj' : ∀ i j, i ∈ keys (outs z) → j ∈ keys (outs z) → ρ i = ρ j → i = j := fun i j hi hj h => inj_iff (hinj z hz) hi hj h
  have hio' : ∀ i, i ∈ keys ins → i ∈ keys (outs z) := fun i hi => by simpa using List.all_eq_true.1 (hio z hz) i hi
  obtain ⟨h8, h9, h10⟩ := hM.callOut hin hinj' hio' (hpost z hz) hle hC hq2
  have h11 := R_to (m := mc) (m' := m.callOut mc ρ (keys (outs z))) (fun _ _ h => h) h9 _ _ (hvi z hz) hR
  rw [hv z hz] at h11
  exact hK' _ _ ((hK z hz).out hl Q' _ w' hQ ⟨_, hD.put hd h8 h10 h11⟩)

theorem ents_noId {κ ν : Type} {fk : κ → AV} {fv : ν → AV} (hk : ∀ a, (fk a).noId = true) (hv : ∀ a, (fv a).noId = true) {l : List (κ × ν)} : entsNoId (ents fk fv l) := fun p hp => by
  obtain ⟨q, _, rfl⟩ := List.mem_map.1 hp
  exact ⟨hk _, hv _⟩
end Go.Proofs.YtfbjoamdkieamaaGreat.AM
end

section
set_option linter.unusedSimpArgs false
set_option linter.unusedVariables false
set_option maxHeartbeats 8000000
namespace Go.Proofs.YtfbjoamdkieamaaGreat.AM
open Go Go.Proofs

theorem nodup_le : ∀ (n : Nat) (l : List Nat), l.Nodup → (∀ x ∈ l, x < n) → l.length ≤ n
  | 0, l, _, h => by
    cases l with
    | nil => simp
    | cons x l => exact absurd (h x (by simp)) (Nat.not_lt_zero x)
  | n + 1, l, hn, h => by
    by_cases hm : n ∈ l
    · have h1 := nodup_le n (l.erase n) (hn.erase n) fun x hx => by
        rw [hn.mem_erase_iff] at hx
        have := h x hx.2
        omega
      rw [List.length_erase_of_mem hm] at h1
      omega
    · have h1 := nodup_le n l hn fun x hx => by
        have := h x hx
        have : x ≠ n := fun he => hm (he ▸ hx)
        omega
      omega
theorem perm_range : ∀ (n : Nat) (l : List Nat), l.Nodup → (∀ x ∈ l, x < n) → (∀ x, x < n → x ∈ l) → l.Perm (List.range n)
  | 0, l, _, h, _ => by
    cases l with
    | nil => exact List.Perm.refl _
    | cons x l => exact absurd (h x (by simp)) (Nat.not_lt_zero x)
  | n + 1, l, hn, h, h' => by
    have hm : n ∈ l := h' n (by omega)
    have h1 := perm_range n (l.erase n) (hn.erase n) (fun x hx => by
        rw [hn.mem_erase_iff] at hx
        have := h x hx.2
        omega) fun x hx => by
        rw [hn.mem_erase_iff]
        exact ⟨by omega, h' x (by omega)⟩
    rw [List.range_succ]
    refine (List.perm_cons_erase hm).trans ((h1.cons n).trans ?_)
    exact (List.perm_append_singleton n (List.range n)).symm

def pick (es : List (Int × Defect)) (seen : List Nat) : List Defect := seen.map fun j => (es.getD j default).2
theorem pick_all {es : List (Int × Defect)} {seen : List Nat} (hn : seen.Nodup) (h : ∀ x ∈ seen, x < es.length) (h' : ∀ x, x < es.length → x ∈ seen) : (pick es seen).Perm (es.map (·.2)) := by
  have h1 := (perm_range es.length seen hn h h').map fun j => (es.getD j default).2
  have h2 : (List.range es.length).map (fun j => (es.getD j default).2) = es.map (·.2) := by
    apply List.ext_getElem (by simp)
    intro i hi1 hi2
    simp only [List.length_map, List.length_range] at hi1
    rw [List.getElem_map, List.getElem_map, List.getElem_range, gd hi1]
  rwa [h2] at h1

/-- The caller's objects, as the iterator sees them. -/
def apO (nt : Nat) (ps : Array Tmp) (asg body : Code) (i : Nat) (xs : List Defect) : List (Nat × HO) := [(1000000, .loop false nt ps asg body [(2, .ptr 1000002 1 0 0)]), (1000002, .arr 28 1 [.sl true i 3 0 xs.length]), (i, .arr 36 3 (xs.map Defect.av))]

theorem values1_spec (es : List (Int × Defect)) (nt : Nat) (ps : Array Tmp) (asg body : Code)
    (hY : ∀ xs x, xs.length < es.length → YSpec env 1000000 [Defect.av x] (ofL .free [(1000000, .loop false nt ps asg body [(2, .ptr 1000002 1 0 0)]), (1000002, .arr 28 1 [.sl true 1000003 3 0 xs.length]), (1000003, .arr 36 3 (xs.map Defect.av))])
      (fun H' => ∀ p ∈ [(1000000, HO.loop false nt ps asg body [(2, .ptr 1000002 1 0 0)]), (1000002, .arr 28 1 [.sl true 1000023 3 0 (xs ++ [x]).length]), (1000003, .dead), (1000023, .arr 36 3 ((xs ++ [x]).map Defect.av))], H' p.1 = p.2)) :
    Spec env 84 [.yld 1000000, .ptr 1000004 1 0 0] (ofL .free [(1000000, .loop false nt ps asg body [(2, .ptr 1000002 1 0 0)]), (1000002, .arr 28 1 [.sl true 1000003 3 0 0]), (1000003, .arr 36 3 []), (1000004, .arr 67 1 [.omap 1000005]), (1000005, .map (ents (.int .i64) Defect.av es))])
      (fun r H' => ∃ xs : List Defect, xs.Perm (es.map (·.2)) ∧ ∀ p ∈ [(1000000, HO.loop false nt ps asg body [(2, .ptr 1000002 1 0 0)]), (1000002, .arr 28 1 [.sl true 1000013 3 0 xs.length]), (1000003, .dead), (1000013, .arr 36 3 (xs.map Defect.av)), (1000004, .arr 67 1 [.omap 1000005]), (1000005, .map (ents (.int .i64) Defect.av es))], H' p.1 = p.2) := by
  refine Spec.intro (nt := _) (rs := []) Tryz.func84 rfl rfl rfl rfl rfl [1000000, 1000002, 1000003, 1000004, 1000005] (fun i h => ofL_keys _ i h) fun X => ?_
  repeat' (first | refine GoC.seq ?_ | refine GoC.region rfl ?_ | refine GoOps.a rfl ?_)
  refine GoOps.m (OpL.range rfl rfl rfl rfl) ?_
  repeat' (first | refine GoC.block ?_ | refine GoOps.nil ?_)
  refine GoC.loop (G := List Nat) (fun seen => ⟨ofL .junk [(0, .yld 1000000), (6, .ptr 6 0 0 0)],
      ofL .free [(6, .iter 1000005 es.length seen), (1000000, .loop false nt ps asg body [(2, .ptr 1000002 1 0 0)]), (1000002, .arr 28 1 [.sl true 1000013 3 0 (pick es seen).length]), (1000003, .dead), (1000013, .arr 36 3 ((pick es seen).map Defect.av)), (1000004, .arr 67 1 [.omap 1000005]), (1000005, .map (ents (.int .i64) Defect.av es))], [1000000, 1000002, 1000003, 1000004, 1000005]⟩)
    (fun seen => seen.Nodup ∧ ∀ x ∈ seen, x < es.length) (fun seen => es.length - seen.length) [] ⟨List.nodup_nil, fun x h => by simp at h⟩ (by refine AS.sub.mk' _ _ (lk [(1000013, 1000003)]) rfl rfl ?_ ?_ <;> repeat' (first | exact True.intro | rfl | exact Wk.refl _ | exact ⟨_, rfl, Elems.ren ⟨_, _, rfl, Wk.of_eq (congrArg (AV.sl _ _ _ _) (by (first | rfl | omega | (simp only [List.length_take, List.length_drop, List.length_map, List.length_append, List.length_cons, List.length_nil] <;> omega)))), rfl⟩ rfl⟩ | exact ⟨_, rfl, Elems.all rfl⟩ | exact ⟨rfl, rfl⟩ | exact ⟨rfl, ents_noId (fun _ => rfl) (fun _ => rfl)⟩ | exact ⟨_, rfl, Elems.ren (Wks.refl _) rfl⟩ | exact ⟨_, rfl, ⟨Wk.refl _, rfl⟩, trivial⟩ | refine And.intro ?_ ?_)) ?_
  rintro seen ⟨hn, hlt⟩ R hR
  try dsimp only at *
  have hlen := nodup_le _ _ hn hlt
  refine GoC.seq (GoC.region rfl ?_)
  refine GoOps.next rfl rfl rfl rfl (fun hall => ?_) (fun j p hp hj => ?_)
  · repeat' (first | refine GoC.seq ?_ | refine GoC.exit ?_ | refine GoC.cond_f rfl ?_ | refine GoOps.nil ?_ | refine GoOps.a rfl ?_)
    simp only [thenA, inBlockA, beq_self_eq_true, cond_true]
    refine FnPost.by (.inl rfl) (AS.sub.refl _) RetOK.nil ?_
    refine ⟨pick es seen, pick_all hn hlt hall, fun p hp => ?_⟩
    simp only [List.mem_cons, List.not_mem_nil, or_false] at hp
    rcases hp with rfl | rfl | rfl | rfl | rfl | rfl <;> rfl
  · have hjl : j < es.length := (List.getElem?_eq_some_iff.1 hp).1
    have hn2 : (j :: seen).Nodup := List.nodup_cons.2 ⟨hj, hn⟩
    have hlen2 := nodup_le es.length (j :: seen) hn2 fun x hx => by
      rcases List.mem_cons.1 hx with rfl | hx
      · exact hjl
      · exact hlt x hx
    simp only [List.length_cons] at hlen2
    have hpk : pick es (seen ++ [j]) = pick es seen ++ [p.2] := by
      rw [pick, List.map_append]
      simp only [List.map_cons, List.map_nil]
      rw [List.getD_eq_getElem?_getD, hp]
      rfl
    repeat' (first | refine GoC.seq ?_ | refine GoC.block ?_ | refine GoC.region rfl ?_ | refine GoC.skip ?_ | refine GoC.cond_t rfl ?_ | refine GoOps.nil ?_ | refine GoOps.a rfl ?_)
    refine GoOps.p (OpL.entry (a := p.1) (x := p.2) rfl rfl rfl rfl hp) ?_
    repeat' (first | refine GoC.seq ?_ | refine GoC.region rfl ?_ | refine GoOps.nil ?_ | refine GoOps.a rfl ?_ | refine GoOps.b rfl ?_ | refine GoOps.n (OpL.st1 rfl) ?_)
    refine GoOps.m (OpL.callY (lk [(1000003, 1000013)]) rfl rfl rfl (hY (pick es seen) p.2 (by rw [pick, List.length_map]; omega)) rfl rfl ⟨⟨_, rfl, ⟨Wk.refl _, rfl⟩, trivial⟩, ⟨_, rfl, Elems.ren (Wks.refl _) rfl⟩, ⟨_, rfl, Elems.mapped (fun _ => rfl) rfl⟩, trivial⟩ rfl rfl
          (post := [(1000000, .loop false nt ps asg body [(2, .ptr 1000002 1 0 0)]), (1000002, .arr 28 1 [.sl true 1000023 3 0 (pick es seen ++ [p.2]).length]), (1000013, .dead), (1000023, .arr 36 3 ((pick es seen ++ [p.2]).map Defect.av))])
          ⟨⟨rfl, ⟨rfl, fun p hp => by simp only [List.mem_singleton] at hp; subst hp; rfl⟩, .inl rfl⟩, ⟨rfl, ⟨_, rfl, OutE.ren rfl⟩, .inl rfl⟩, ⟨rfl, rfl, rfl⟩, ⟨rfl, ⟨_, rfl, OutE.mapped fun _ => rfl⟩, .inr rfl⟩, trivial⟩) ?_
    repeat' (first | refine GoC.skip ?_ | refine GoC.cond_f rfl ?_ | refine GoOps.nil ?_ | refine GoOps.a rfl ?_)
    refine hR (seen ++ [j]) _ ⟨?_, fun x hx => ?_⟩ (by simp only [List.length_append, List.length_cons, List.length_nil]; omega) (by rw [hpk]; refine AS.sub.mk' _ _ (lk [(1000013, 1000023)]) rfl rfl ?_ ?_ <;> repeat' (first | exact True.intro | rfl | exact Wk.refl _ | exact ⟨_, rfl, Elems.ren ⟨_, _, rfl, Wk.of_eq (congrArg (AV.sl _ _ _ _) (by (first | rfl | omega | (simp only [List.length_take, List.length_drop, List.length_map, List.length_append, List.length_cons, List.length_nil] <;> omega)))), rfl⟩ rfl⟩ | exact ⟨_, rfl, Elems.mapped (fun _ => rfl) rfl⟩ | exact ⟨rfl, rfl⟩ | exact ⟨rfl, ents_noId (fun _ => rfl) (fun _ => rfl)⟩ | exact ⟨_, rfl, Elems.ren (Wks.refl _) rfl⟩ | exact ⟨_, rfl, ⟨Wk.refl _, rfl⟩, trivial⟩ | refine And.intro ?_ ?_))
    · exact (List.perm_append_singleton j seen).nodup_iff.2 hn2
    · rcases List.mem_append.1 hx with hx | hx
      · exact hlt x hx
      · simp only [List.mem_singleton] at hx; subst hx; exact hjl
end Go.Proofs.YtfbjoamdkieamaaGreat.AM
end

section
set_option linter.unusedVariables false
set_option linter.unusedSectionVars false
namespace Go.Proofs.YtfbjoamdkieamaaGreat.AM
open Go

def NilT (id : Nat) (x y : AV) : Prop := ∀ (m m' : Mem) (v : Value), m.le m' → m'.at_ id = some none → R m x v → R m' y v
def NilTs (id : Nat) (x y : List AV) : Prop := ∀ (m m' : Mem) (v : List Value), m.le m' → m'.at_ id = some none → RS m x v → RS m' y v
theorem NilT.same (id : Nat) (x : AV) : NilT id x x := fun m m' v h _ h' => R.mono h x v h'
theorem NilTs.same (id : Nat) (x : List AV) : NilTs id x x := fun m m' v h _ h' => RS.mono h x v h'
theorem NilT.nil (id w w0 : Nat) : NilT id (.list true w0 []) (.sl true id w 0 0) := fun m m' v h ha h1 => by
  obtain ⟨ad, cap, h2, _, _, h3, _⟩ := h1
  obtain ⟨rfl, rfl⟩ := h3 rfl rfl
  exact ⟨none, ha, ⟨h2, rfl, rfl⟩, fun _ _ => rfl⟩
theorem NilTs.cons {id : Nat} {x y : AV} {xs ys : List AV} (h : NilT id x y) (h' : NilTs id xs ys) : NilTs id (x :: xs) (y :: ys) := fun m m' v hl ha ⟨u, us, h1, h2, h3⟩ => ⟨u, us, h1, h m m' u hl ha h2, h' m m' us hl ha h3⟩
theorem NilT.agg {id : Nat} {xs ys : List AV} (h : NilTs id xs ys) : NilT id (.agg xs) (.agg ys) := fun m m' v hl ha ⟨vs, h1, h2⟩ => ⟨vs, h1, h m m' vs hl ha h2⟩

theorem AS.sub.nilcell {s : AS} (o id e w : Nat) {t wd : Nat} {x : AV} (y : AV) (ho : s.h o = .arr t wd [x]) (hf : s.h id = .free) (hx : NilT id x y) : s.sub ⟨s.t, upd (upd s.h id (.arr e w [])) o (.arr t wd [y]), s.k⟩ := by
  refine ⟨fun X nt a w' ⟨m, hD⟩ => ?_⟩
  have hM : MemOK X.m0.ro X.w0 X.mu m s.h w' := hD.mem
  have hnone : m.at_ id = none := by have := hM.obj id; rw [hf] at this; exact this
  have hle : m.le (m.bind id none) := Mem.le_bind hnone
  have hne : o ≠ id := fun h => by rw [h, hf] at ho; cases ho
  have hM1 : MemOK X.m0.ro X.w0 X.mu (m.bind id none) (upd s.h id (.arr e w [])) w' := by
    refine hM.turn id (.arr e w []) (fun _ => False) hle rfl (fun i hi => by simp [Mem.bind, hi]) rfl rfl rfl (Nat.le_refl _) (fun _ _ _ => rfl) (fun _ h => h.elim) ?_ ?_
    · exact ⟨none, Mem.bind_at _ _ _, fun _ => rfl, fun L hL => by cases hL⟩
    · intro _ L hL
      rw [Mem.bind_at] at hL
      cases hL
  have hat : (m.bind id none).at_ o = m.at_ o := by simp [Mem.bind, hne]
  have hM2 := hM1.turn o (.arr t wd [y]) (fun _ => False) (Mem.le.refl _) rfl (fun _ _ => rfl) rfl rfl rfl (Nat.le_refl _) (fun _ _ _ => rfl) (fun _ h => h.elim) (by
      have h1 := hM.obj o
      rw [ho] at h1
      obtain ⟨ol, h2, h3, h4⟩ := h1
      refine ⟨ol, by rw [hat]; exact h2, fun h => by have := h3 h; simp at this, fun L hL => ?_⟩
      obtain ⟨cs, h5, h6, h7, h8⟩ := h4 L hL
      refine ⟨cs, h5, h6, h7, RRow_mem (l := [x]) rfl (fun i hi v hv => ?_) h8⟩
      have : i = 0 := by simpa using hi
      subst this
      exact hx m _ v hle (Mem.bind_at _ _ _) hv) (fun _ L hL => by
      rw [hat] at hL
      have h9 := hM.mine o L (by rw [ho]; rfl) hL
      refine ⟨h9.1, h9.2, fun i L' hi hl hL' => ?_⟩
      by_cases hid : i = id
      · subst hid; rw [Mem.bind_at] at hL'; cases hL'
      · rw [upd_ne _ _ _ _ hid] at hl
        have hL' : m.at_ i = some (some L') := by simpa [Mem.bind, hid] using hL'
        exact hM.apart i o L' L hi hl (by rw [ho]; rfl) hL' hL)
  exact ⟨m.bind id none, hD.size, hD.defers.mono hle.ro, hD.le.trans hle, hD.ids, fun i => R.mono hle _ _ (hD.tmps i), hM2⟩
end Go.Proofs.YtfbjoamdkieamaaGreat.AM
end

section
set_option linter.unusedSimpArgs false
set_option linter.unusedVariables false
set_option maxHeartbeats 8000000
namespace Go.Proofs.YtfbjoamdkieamaaGreat.AM
open Go Go.Proofs

theorem RoundA.mk2 {nt lid : Nat} {Q : (Nat → HO) → Prop} {s : AS} {ps : Array Tmp} {asg bd : Code} {tm0 : List (Nat × AV)} (h : s.h lid = .loop true nt ps asg bd tm0) (tm : List (Nat × AV)) (os : List (Nat × HO))
    (hs : s.sub ⟨ofL .junk [], ofL .free ((lid, .loop true nt ps asg bd tm) :: os), s.k⟩) (hq : Q (upd (ofL .free ((lid, .loop true nt ps asg bd tm) :: os)) lid (.loop false nt ps asg bd tm))) : RoundA nt lid Q .normal s :=
  RoundA.mk hs (by simp only [ofL, updL, upd_same]) hq

theorem AppendSeq_spec (es : List (Int × Defect)) (hes : es.length ≤ 1000) : Spec env 105 [.list true 0 [], .fn (.func 84) [] [.ptr 1000004 1 0 0]]
    (ofL .free [(1000004, .arr 67 1 [.omap 1000005]), (1000005, .map (ents (.int .i64) Defect.av es))])
    (fun r H' => ∃ xs : List Defect, xs.Perm (es.map (·.2)) ∧ r = .sl true 1000014 3 0 xs.length ∧ ∀ p ∈ [(1000014, HO.arr 36 3 (xs.map Defect.av)), (1000004, .arr 67 1 [.omap 1000005]), (1000005, .map (ents (.int .i64) Defect.av es))], H' p.1 = p.2) := by
  refine Spec.introR (nt := _) (rs := [_]) Tryz.func105 rfl rfl rfl rfl rfl [1000004, 1000005] (fun i h => ofL_keys _ i h) fun X hX => ?_
  repeat' (first | refine GoC.seq ?_ | refine GoC.block ?_ | refine GoC.region rfl ?_ | refine GoOps.nil ?_ | refine GoOps.a rfl ?_ | refine GoOps.m (OpL.boxw (by rfl) rfl rfl rfl rfl) ?_)
  refine GoC.sub (AS.sub.nilcell 2 1000003 36 3 (.sl true 1000003 3 0 0) rfl rfl (NilT.nil _ _ _)) ?_
  refine GoC.rangeFunc (ζ := List Defect) (φ := fun xs => xs.Perm (es.map (·.2))) 1000000 [(2, .ptr 2 1 0 0)] (lk [(1000002, 2), (1000013, 1000014)]) hX rfl (WkL1 (Wk.refl _)) rfl (values1_spec es _ _ _ _ ?_) (by rfl) (by rfl)
      (by exact ⟨⟨_, rfl, ⟨Wk.refl _, rfl⟩, trivial⟩, ⟨_, rfl, Elems.ren (Wks.refl _) rfl⟩, ⟨_, rfl, Elems.mapped (α := Defect) (f := Defect.av) (xs := []) (fun _ => rfl) rfl⟩, ⟨_, rfl, Elems.ren (Wks.refl _) rfl⟩, ⟨rfl, ents_noId (fun _ => rfl) (fun _ => rfl)⟩, trivial⟩) (by rfl) (by exact fun _ => rfl) (by exact fun _ => rfl)
      (post := fun xs => [(1000000, _), (2, .arr 28 1 [.sl true 1000014 3 0 xs.length]), (1000003, .dead), (1000014, .arr 36 3 (xs.map Defect.av)), (1000004, .arr 67 1 [.omap 1000005]), (1000005, .map (ents (.int .i64) Defect.av es))])
      (by exact fun xs hxs => ⟨⟨rfl, ⟨rfl, fun p hp => by simp only [List.mem_singleton] at hp; subst hp; rfl⟩, .inl rfl⟩, ⟨rfl, ⟨_, rfl, OutE.ren rfl⟩, .inl rfl⟩, ⟨rfl, rfl, rfl⟩, ⟨rfl, ⟨_, rfl, OutE.mapped fun _ => rfl⟩, .inr rfl⟩, ⟨rfl, ⟨_, rfl, OutE.ren rfl⟩, .inl rfl⟩, ⟨rfl, ⟨rfl, ents_noId (fun _ => rfl) (fun _ => rfl)⟩, .inl rfl⟩, trivial⟩)
      (by exact fun xs => ⟨_, rfl⟩) (fun xs hxs => ?_)
  · intro xs x hx
    refine YSpec.intro rfl rfl rfl [1000000, 1000002, 1000003] (fun i h => ofL_keys _ i h) fun X => ?_
    repeat' (first | refine GoC.region rfl ?_ | refine GoOps.nil ?_ | refine GoOps.b rfl ?_ | refine GoOps.n (OpL.st1 rfl) ?_)
    refine BeginA.mk rfl ?_
    repeat' (first | refine GoC.block ?_ | refine GoC.region rfl ?_ | refine GoOps.nil ?_ | refine GoOps.a rfl ?_ | refine GoOps.m (OpL.row rfl) ?_ | refine GoOps.m (OpL.app rfl rfl rfl rfl rfl rfl rfl rfl rfl rfl rfl (by (first | rfl | omega | (simp only [List.length_take, List.length_drop, List.length_map, List.length_append, List.length_cons, List.length_nil] <;> omega))) (by (first | rfl | omega | (simp only [List.length_take, List.length_drop, List.length_map, List.length_append, List.length_cons, List.length_nil] <;> omega))) (by (first | rfl | omega | (simp only [List.length_take, List.length_drop, List.length_map, List.length_append, List.length_cons, List.length_nil] <;> omega)))) ?_ | refine GoOps.n (OpL.st1 rfl) ?_)
    dsimp only [thenA, inBlockA]
    refine RoundA.mk2 rfl [(2, .ptr 1000002 1 0 0)] [(1000002, .arr 28 1 [.sl true 1000023 3 0 (xs ++ [x]).length]), (1000003, .dead), (1000023, .arr 36 3 ((xs ++ [x]).map Defect.av))] ?hs fun p hp => ?_
    case hs => refine AS.sub.mk' _ _ (lk [(1000023, 11)]) rfl rfl ?_ ?_ <;> repeat' (first | exact True.intro | exact ⟨_, rfl, Elems.ren ⟨_, _, rfl, Wk.of_eq (congrArg (AV.sl _ _ _ _) (by (first | rfl | omega | (simp only [List.length_take, List.length_drop, List.length_map, List.length_append, List.length_cons, List.length_nil] <;> omega)))), rfl⟩ rfl⟩ | exact ⟨_, rfl, Elems.of_eq (by rw [List.map_append]; rfl) (noId_map (fun _ => rfl) _)⟩ | exact ⟨_, rfl, ⟨Wk.refl _, rfl⟩, trivial⟩ | refine And.intro ?_ ?_)
    simp only [List.mem_cons, List.not_mem_nil, or_false] at hp
    rcases hp with rfl | rfl | rfl | rfl <;> rfl
  · repeat' (first | refine GoC.seq ?_ | refine GoC.region rfl ?_ | refine GoC.ret ?_ | refine GoOps.nil ?_ | refine GoOps.a rfl ?_)
    refine FnPost.by (.inr rfl) (AS.sub.refl _) (RetOK.hv rfl RetOK.nil) ⟨xs, hxs, rfl, fun p hp => ?_⟩
    simp only [List.mem_cons, List.not_mem_nil, or_false] at hp
    rcases hp with rfl | rfl | rfl <;> rfl
end Go.Proofs.YtfbjoamdkieamaaGreat.AM
end

section
set_option linter.unusedSimpArgs false
set_option linter.unusedVariables false
set_option maxHeartbeats 8000000
namespace Go.Proofs.YtfbjoamdkieamaaGreat.AM
open Go Go.Proofs

def valsFn (i : Nat) : AV := .fn (.func 84) [] [.ptr i 1 0 0]

theorem Collect_spec (es : List (Int × Defect)) (hes : es.length ≤ 1000) : Spec env 82 [.fn (.func 84) [] [.ptr 1000004 1 0 0]]
    (ofL .free [(1000004, .arr 67 1 [.omap 1000005]), (1000005, .map (ents (.int .i64) Defect.av es))])
    (fun r H' => ∃ xs : List Defect, xs.Perm (es.map (·.2)) ∧ r = .sl true 1000014 3 0 xs.length ∧ ∀ p ∈ [(1000014, HO.arr 36 3 (xs.map Defect.av)), (1000004, .arr 67 1 [.omap 1000005]), (1000005, .map (ents (.int .i64) Defect.av es))], H' p.1 = p.2) := by
  refine Spec.introR (nt := _) (rs := [_]) Tryz.func82 rfl rfl rfl rfl rfl [1000004, 1000005] (fun i h => ofL_keys _ i h) fun X hX => ?_
  repeat' (first | refine GoC.seq ?_ | refine GoC.region rfl ?_ | refine GoOps.nil ?_ | refine GoOps.a rfl ?_)
  refine GoOps.callZ (ζ := List Defect) (φ := fun xs => xs.Perm (es.map (·.2))) (lk []) rfl rfl (AppendSeq_spec es hes) rfl rfl (by exact ⟨⟨_, rfl, Elems.ren (Wks.refl _) rfl⟩, ⟨rfl, ents_noId (fun _ => rfl) (fun _ => rfl)⟩, trivial⟩) (by rfl) (by exact fun _ _ => rfl) (by exact fun _ _ => rfl)
    (post := fun xs => [(1000014, HO.arr 36 3 (xs.map Defect.av)), (1000004, .arr 67 1 [.omap 1000005]), (1000005, .map (ents (.int .i64) Defect.av es))])
    (by exact fun xs _ => ⟨⟨rfl, ⟨_, rfl, OutE.mapped fun _ => rfl⟩, .inr rfl⟩, ⟨rfl, ⟨_, rfl, OutE.ren rfl⟩, .inl rfl⟩, ⟨rfl, ⟨rfl, ents_noId (fun _ => rfl) (fun _ => rfl)⟩, .inl rfl⟩, trivial⟩) (by exact fun _ _ => rfl) (by exact fun _ _ => rfl) fun xs hxs => ?_
  repeat' (first | refine GoC.ret ?_ | refine GoOps.nil ?_ | refine GoOps.a rfl ?_)
  refine FnPost.by (.inr rfl) (AS.sub.refl _) (RetOK.hv rfl RetOK.nil) ⟨xs, hxs, rfl, fun p hp => ?_⟩
  simp only [List.mem_cons, List.not_mem_nil, or_false] at hp
  rcases hp with rfl | rfl | rfl <;> rfl

theorem sortId_eq {xs ys : List Defect} (hp : xs.Perm ys) (hv : inVD ys) (hd : ys.Pairwise (fun a b => a.id ≠ b.id)) : sortId xs = sortId ys := by
  have hvx : inVD xs := fun d h => hv d (hp.mem_iff.1 h)
  have h1 := (sortId_perm hvx).trans (hp.trans (sortId_perm hv).symm)
  have hne : (sortId ys).Pairwise (fun a b => a.id ≠ b.id) := by
    refine (List.Perm.pairwise_iff (fun {a b} h => fun h' => h h'.symm) (sortId_perm hv)).2 hd
  have hlt : (sortId ys).Pairwise (fun a b => a.id < b.id) := (List.pairwise_and_iff.2 ⟨sortId_sorted ys, hne⟩).imp fun ⟨h1, h2⟩ => by omega
  have hne' : (sortId xs).Pairwise (fun a b => a.id ≠ b.id) := (List.Perm.pairwise_iff (fun {a b} h => fun h' => h h'.symm) h1).2 hne
  have hlt' : (sortId xs).Pairwise (fun a b => a.id < b.id) := (List.pairwise_and_iff.2 ⟨sortId_sorted xs, hne'⟩).imp fun ⟨h1, h2⟩ => by omega
  exact List.Perm.eq_of_pairwise (fun a b _ _ h h' => absurd h (by omega)) hlt' hlt h1

theorem SortedFunc_spec (es : List (Int × Defect)) (hes : es.length ≤ 1000) (hv : inVD (es.map (·.2))) (hd : (es.map (·.2)).Pairwise (fun a b => a.id ≠ b.id)) : Spec env 63 [.fn (.func 84) [] [.ptr 1000004 1 0 0], .fn (.func 65) [] []]
    (ofL .free [(1000004, .arr 67 1 [.omap 1000005]), (1000005, .map (ents (.int .i64) Defect.av es))])
    (fun r H' => r = .list true 3 ((sortId (es.map (·.2))).map Defect.av) ∧ ∀ p ∈ [(1000004, HO.arr 67 1 [.omap 1000005]), (1000005, .map (ents (.int .i64) Defect.av es))], H' p.1 = p.2) := by
  refine Spec.introR (nt := _) (rs := [_]) Tryz.func63 rfl rfl rfl rfl rfl [1000004, 1000005] (fun i h => ofL_keys _ i h) fun X hX => ?_
  repeat' (first | refine GoC.seq ?_ | refine GoC.region rfl ?_ | refine GoOps.nil ?_ | refine GoOps.a rfl ?_)
  refine GoOps.callZ (ζ := List Defect) (φ := fun xs => xs.Perm (es.map (·.2))) (lk []) rfl rfl (Collect_spec es hes) rfl rfl (by exact ⟨⟨_, rfl, Elems.ren (Wks.refl _) rfl⟩, ⟨rfl, ents_noId (fun _ => rfl) (fun _ => rfl)⟩, trivial⟩) (by rfl) (by exact fun _ _ => rfl) (by exact fun _ _ => rfl)
    (post := fun xs => [(1000014, HO.arr 36 3 (xs.map Defect.av)), (1000004, .arr 67 1 [.omap 1000005]), (1000005, .map (ents (.int .i64) Defect.av es))])
    (by exact fun xs _ => ⟨⟨rfl, ⟨_, rfl, OutE.mapped fun _ => rfl⟩, .inr rfl⟩, ⟨rfl, ⟨_, rfl, OutE.ren rfl⟩, .inl rfl⟩, ⟨rfl, ⟨rfl, ents_noId (fun _ => rfl) (fun _ => rfl)⟩, .inl rfl⟩, trivial⟩) (by exact fun _ _ => rfl) (by exact fun _ _ => rfl) fun xs hxs => ?_
  have hlx : xs.length ≤ 1000 := by have := hxs.length_eq; simp at this; omega
  have hvx : inVD xs := fun d h => hv d (hxs.mem_iff.1 h)
  have hls := (sortId_perm hvx).length_eq
  repeat' (first | refine GoC.seq ?_ | refine GoC.region rfl ?_ | refine GoOps.nil ?_ | refine GoOps.a rfl ?_)
  refine GoOps.m (OpL.sortId rfl rfl rfl rfl rfl (by omega) hvx) ?_
  repeat' (first | refine GoC.seq ?_ | refine GoC.region rfl ?_ | refine GoC.ret ?_ | refine GoOps.nil ?_ | refine GoOps.a rfl ?_)
  refine FnPost.by (.inr rfl) (AS.sub.frz [1000014] [(4, .list true 3 ((sortId xs).map Defect.av))] ⟨Fz.mp rfl rfl (fun _ => rfl) (by simp [hls]), trivial⟩) (RetOK.hv rfl RetOK.nil) ?_
  refine ⟨by rw [← sortId_eq hxs hv hd]; rfl, fun p hp => ?_⟩
  simp only [List.mem_cons, List.not_mem_nil, or_false] at hp
  rcases hp with rfl | rfl <;> rfl

theorem Values_spec (es : List (Int × Defect)) : Spec env 64 [.omap 1000005] (ofL .free [(1000005, .map (ents (.int .i64) Defect.av es))])
    (fun r H' => r = valsFn 1 ∧ ∀ p ∈ [(1, HO.arr 67 1 [.omap 1000005]), (1000005, .map (ents (.int .i64) Defect.av es))], H' p.1 = p.2) := by
  refine Spec.introR (nt := _) (rs := [_]) Tryz.func64 rfl rfl rfl rfl rfl [1000005] (fun i h => ofL_keys _ i h) fun X hX => ?_
  repeat' (first | refine GoC.seq ?_ | refine GoC.region rfl ?_ | refine GoC.ret ?_ | refine GoOps.nil ?_ | refine GoOps.a rfl ?_ | refine GoOps.m (OpL.boxw (by rfl) rfl rfl rfl rfl) ?_ | refine GoOps.p (OpL.mkf rfl) ?_)
  refine FnPost.by (.inr rfl) (AS.sub.refl _) (RetOK.hv rfl RetOK.nil) ⟨rfl, fun p hp => ?_⟩
  simp only [List.mem_cons, List.not_mem_nil, or_false] at hp
  rcases hp with rfl | rfl <;> rfl

theorem sorted_spec (es : List (Int × Defect)) (ds : List (Defect × Int)) (hes : es.length ≤ 1000) (hv : inVD (es.map (·.2))) (hd : (es.map (·.2)).Pairwise (fun a b => a.id ≠ b.id)) : Spec env 40 [.agg [.omap 1000005, .omap 1000006]]
    (ofL .free [(1000005, .map (ents (.int .i64) Defect.av es)), (1000006, .map (ents Defect.av (.int .i64) ds))])
    (fun r H' => r = .list true 3 ((sortId (es.map (·.2))).map Defect.av) ∧ ∀ p ∈ [(1000005, HO.map (ents (.int .i64) Defect.av es)), (1000006, .map (ents Defect.av (.int .i64) ds))], H' p.1 = p.2) := by
  refine Spec.introR (nt := _) (rs := [_]) Tryz.func40 rfl rfl rfl rfl rfl [1000005, 1000006] (fun i h => ofL_keys _ i h) fun X hX => ?_
  repeat' (first | refine GoC.seq ?_ | refine GoC.region rfl ?_ | refine GoOps.nil ?_ | refine GoOps.a rfl ?_ | refine GoOps.m (OpL.boxw (by rfl) rfl rfl rfl rfl) ?_)
  refine GoOps.m (OpL.callO (lk [(1, 1000004)]) rfl rfl (Values_spec es) rfl rfl ⟨⟨rfl, ents_noId (fun _ => rfl) (fun _ => rfl)⟩, trivial⟩ (by rfl) (by rfl)
    (post := [(1000004, HO.arr 67 1 [.omap 1000005]), (1000005, .map (ents (.int .i64) Defect.av es))])
    (by exact ⟨⟨rfl, ⟨_, rfl, OutE.ren rfl⟩, .inr rfl⟩, ⟨rfl, ⟨rfl, ents_noId (fun _ => rfl) (fun _ => rfl)⟩, .inl rfl⟩, trivial⟩) (by rfl) (by rfl)) ?_
  refine GoOps.m (OpL.callO (lk []) rfl rfl (SortedFunc_spec es hes hv hd) rfl rfl ⟨⟨_, rfl, Elems.ren (Wks.refl _) rfl⟩, ⟨rfl, ents_noId (fun _ => rfl) (fun _ => rfl)⟩, trivial⟩ (by rfl) (by rfl)
    (post := [(1000004, HO.arr 67 1 [.omap 1000005]), (1000005, .map (ents (.int .i64) Defect.av es))])
    (by exact ⟨⟨rfl, ⟨_, rfl, OutE.ren rfl⟩, .inl rfl⟩, ⟨rfl, ⟨rfl, ents_noId (fun _ => rfl) (fun _ => rfl)⟩, .inl rfl⟩, trivial⟩) (by rfl) (by rfl)) ?_
  repeat' (first | refine GoC.ret ?_ | refine GoOps.nil ?_ | refine GoOps.a rfl ?_)
  refine FnPost.by (.inr rfl) (AS.sub.refl _) (RetOK.hv rfl RetOK.nil) ⟨rfl, fun p hp => ?_⟩
  simp only [List.mem_cons, List.not_mem_nil, or_false] at hp
  rcases hp with rfl | rfl <;> rfl
end Go.Proofs.YtfbjoamdkieamaaGreat.AM
end

section
set_option linter.unusedSimpArgs false
set_option linter.unusedVariables false
set_option maxHeartbeats 8000000
namespace Go.Proofs.YtfbjoamdkieamaaGreat.AM
open Go Go.Proofs

def allOf (l : List Defect) : List (Int × Defect) := l.foldl (fun m x => mput m x.id x) []
def diffOf (l : List Defect) : List (Defect × Int) := l.foldl (fun m x => mput m x ((mget m x).getD 0 + 1)) []
theorem take_snoc {α : Type} [Inhabited α] {l : List α} {i : Nat} (h : i < l.length) : l.take (i + 1) = l.take i ++ [l.getD i default] := by
  rw [gd h, List.take_add_one, List.getElem?_eq_getElem h]; rfl
theorem allOf_succ {l : List Defect} {i : Nat} (h : i < l.length) : allOf (l.take (i + 1)) = mput (allOf (l.take i)) (nth l i).id (nth l i) := by
  rw [take_snoc h, allOf, List.foldl_append]; rfl
theorem diffOf_succ {l : List Defect} {i : Nat} (h : i < l.length) : diffOf (l.take (i + 1)) = mput (diffOf (l.take i)) (nth l i) ((mget (diffOf (l.take i)) (nth l i)).getD 0 + 1) := by
  rw [take_snoc h, diffOf, List.foldl_append]; rfl
theorem diffOf_b (l : List Defect) : ∀ x, 0 ≤ (mget (diffOf l) x).getD 0 ∧ (mget (diffOf l) x).getD 0 ≤ l.length := by
  have key : ∀ i, i ≤ l.length → ∀ x, 0 ≤ (mget (diffOf (l.take i)) x).getD 0 ∧ (mget (diffOf (l.take i)) x).getD 0 ≤ i := by
    intro i
    induction i with
    | zero => intro _ x; simp [diffOf, mget]
    | succ i ih =>
      intro hi x
      rw [diffOf_succ (by omega), mget_mput]
      have h1 := ih (by omega) x
      have h2 := ih (by omega) (nth l i)
      split
      · simp only [Option.getD_some]; omega
      · omega
  have := key l.length (Nat.le_refl _)
  rwa [List.take_length] at this

theorem collect_spec (ls : List (List Defect)) (hl : ls.length ≤ 10) (ht : ls.flatten.length ≤ 1000) : Spec env 37 [.list false 1 (ls.map defs)] (ofL .free []) (fun r H' => r = .agg [.omap 6, .omap 7] ∧ ∀ p ∈ [(6, HO.map (ents (.int .i64) Defect.av (allOf ls.flatten))), (7, .map (ents Defect.av (.int .i64) (diffOf ls.flatten)))], H' p.1 = p.2) := by
  refine Spec.intro (nt := _) (rs := [_]) Tryz.func37 rfl rfl rfl rfl rfl [] (fun _ h => absurd rfl h) fun X => ?_
  repeat' (first | refine GoC.seq ?_ | refine GoC.block ?_ | refine GoC.region rfl ?_ | refine GoOps.nil ?_ | refine GoOps.a rfl ?_ | refine GoOps.b rfl ?_ | refine GoOps.p (OpL.len rfl rfl) ?_ | refine GoOps.p (OpL.build rfl) ?_ | refine GoOps.n (OpL.st1 rfl) ?_ | refine GoOps.m (OpL.makeMap rfl) ?_ | refine GoOps.p (OpL.call rfl rfl (Concat_spec ls hl ht) rfl rfl) ?_)
  refine GoC.loop (G := Nat) (fun i => ⟨ofL .junk [(2, .ptr 2 2 0 0), (3, .ptr 3 2 0 0), (10, defs ls.flatten), (11, .int .i64 ls.flatten.length), (12, .int .i64 i)],
      ofL .free [(2, .arr 70 2 [.agg [.raw (.map none), .raw (.map none)]]), (3, .arr 70 2 [.agg [.omap 6, .omap 7]]), (6, .map (ents (.int .i64) Defect.av (allOf (ls.flatten.take i)))), (7, .map (ents Defect.av (.int .i64) (diffOf (ls.flatten.take i))))], []⟩)
    (fun i => i ≤ ls.flatten.length) (fun i => ls.flatten.length - i) 0 (Nat.zero_le _) (by (refine AS.sub.mk' _ _ (lk []) rfl rfl ?_ ?_ <;> repeat' (first | exact True.intro | rfl | exact Wk.refl _ | exact ⟨_, rfl, Elems.all rfl⟩ | exact ⟨rfl, ents_noId (fun _ => rfl) (fun _ => rfl)⟩ | exact ⟨_, rfl, Elems.ren (Wks.refl _) rfl⟩ | refine And.intro ?_ ?_))) ?_
  intro i hi R hR
  generalize hL : ls.flatten = l at *
  have hb := diffOf_b (l.take i) (l.getD i default)
  have hlt : (l.take i).length ≤ 1000 := by simp; omega
  repeat' (first | refine GoC.seq ?_ | refine GoC.block ?_ | refine GoC.region rfl ?_ | refine GoC.skip ?_ | refine GoC.exit ?_ | refine GoC.ret ?_ | (refine GoC.cond_d rfl ?_ ?_ <;> intro _ <;> try contradiction) | refine GoOps.nil ?_ | refine GoOps.a rfl ?_ | refine GoOps.b rfl ?_ | refine GoOps.p (OpL.idx rfl rfl (by with_reducible exact rfl) rfl rfl rfl rfl (by (first | assumption | omega))) ?_ | refine GoOps.n (OpL.st1 rfl) ?_ | refine GoOps.n (OpL.mapUpdate rfl rfl rfl rfl rfl (by first | exact int_keyT | exact Defect.keyT)) ?_)
  · have hk1 : KeyT env.P 36 Defect.av := Defect.keyT
    refine GoC.drawS (some ⟨3, 5, 7, .map (ents Defect.av (.int .i64) (mput (diffOf (l.take i)) (l.getD i default) ((mget (diffOf (l.take i)) (l.getD i default)).getD 0)))⟩) env_mixed ?_
    refine GoDS.a rfl rfl ?_
    refine GoDS.a rfl rfl ?_
    refine GoDS.a rfl rfl ?_
    refine GoDS.lookup rfl rfl rfl rfl rfl rfl hk1 rfl rfl rfl ?_
    refine GoDS.p rfl (OpL.add rfl rfl (by omega)) ?_
    refine GoDS.mapEntry rfl rfl rfl rfl rfl hk1 rfl rfl rfl ?_
    refine GoDS.a rfl rfl ?_
    refine GoDS.n rfl (OpL.entryStore rfl rfl rfl rfl) ?_
    refine GoDS.done (fun f hf => by cases hf; show ¬ (5 < 3); decide) rfl rfl (by kernel_rfl) ?_
    repeat' (first | refine GoC.region rfl ?_ | refine GoOps.nil ?_ | refine GoOps.a rfl ?_ | refine GoOps.p (OpL.add rfl rfl (by (first | assumption | omega))) ?_)
    refine hR (i + 1) _ (by omega) (by omega) ?_
    rw [allOf_succ (by omega), diffOf_succ (by omega)]
    (refine AS.sub.mk' _ _ (lk []) rfl rfl ?_ ?_ <;> repeat' (first | exact True.intro | rfl | exact Wk.refl _ | exact ⟨_, rfl, Elems.all rfl⟩ | exact ⟨rfl, ents_noId (fun _ => rfl) (fun _ => rfl)⟩ | exact ⟨_, rfl, Elems.ren (Wks.refl _) rfl⟩ | refine And.intro ?_ ?_))
  · have e : i = l.length := by omega
    subst e
    rw [List.take_length]
    refine FnPost.by (.inr rfl) (AS.sub.refl _) (RetOK.cellF rfl rfl rfl rfl rfl RetOK.nil) ?_
    refine ⟨rfl, fun p hp => ?_⟩
    simp only [List.mem_cons, List.not_mem_nil, or_false] at hp
    rcases hp with rfl | rfl <;> rfl
end Go.Proofs.YtfbjoamdkieamaaGreat.AM
end

section
set_option linter.unusedSimpArgs false
set_option linter.unusedVariables false
set_option maxHeartbeats 8000000
namespace Go.Proofs.YtfbjoamdkieamaaGreat.AM
open Go Go.Proofs

theorem mclash_spec (es : List (Int × Defect)) (ds : List (Defect × Int)) : Spec env 38 [.agg [.omap 1000005, .omap 1000006]]
    (ofL .free [(1000005, .map (ents (.int .i64) Defect.av es)), (1000006, .map (ents Defect.av (.int .i64) ds))])
    (fun r H' => r = .bool (decide (es.length < ds.length)) ∧ ∀ p ∈ [(1000005, HO.map (ents (.int .i64) Defect.av es)), (1000006, .map (ents Defect.av (.int .i64) ds))], H' p.1 = p.2) := by
  refine Spec.introR (nt := _) (rs := [_]) Tryz.func38 rfl rfl rfl rfl rfl [1000005, 1000006] (fun i h => ofL_keys _ i h) fun X hX => ?_
  repeat' (first | refine GoC.seq ?_ | refine GoC.region rfl ?_ | refine GoC.ret ?_ | refine GoOps.nil ?_ | refine GoOps.a rfl ?_ | refine GoOps.m (OpL.boxw (by rfl) rfl rfl rfl rfl) ?_ | refine GoOps.p (OpL.lenMap rfl rfl rfl) ?_)
  refine FnPost.by (.inr rfl) (AS.sub.refl _) (RetOK.hv rfl RetOK.nil) ⟨?_, fun p hp => ?_⟩
  · exact congrArg AV.bool (decide_eq_decide.2 (by omega))
  simp only [List.mem_cons, List.not_mem_nil, or_false] at hp
  rcases hp with rfl | rfl <;> rfl

def clashL (l : List Defect) : Prop := (allOf l).length < (diffOf l).length
instance (l : List Defect) : Decidable (clashL l) := inferInstanceAs (Decidable (_ < _))
def Format.check (f : Format) : Int := if f.form = 0 then (if clashL f.grown then 31 else 0) else f.form
theorem Format.form_grown {f : Format} (h : f.form = 0) : f.grown.length ≤ 100 := by
  unfold Format.form at h
  split at h
  · split at h
    · rename_i h1
      unfold formatP at h1
      omega
    · omega
  · omega

theorem lCheck_spec (f : Format) : PSpec env 36 [f.av] (.int .i64 f.check) := by
  refine Spec.intro (nt := _) (rs := [_]) Tryz.func36 rfl rfl rfl rfl rfl [] (fun _ h => absurd rfl h) fun X => ?_
  repeat' (first | refine GoC.seq ?_ | refine GoC.region rfl ?_ | refine GoC.skip ?_ | refine GoC.ret ?_ | (refine GoC.cond_d rfl ?_ ?_ <;> intro _ <;> try contradiction) | refine GoOps.nil ?_ | refine GoOps.a rfl ?_ | refine GoOps.m (OpL.row rfl) ?_ | refine GoOps.m (OpL.boxw (by rfl) rfl rfl rfl rfl) ?_ | refine GoOps.p (OpL.call rfl rfl (form_spec f) rfl rfl) ?_)
  · ((try dsimp only [thenA, inBlockA]); refine FnPost.many (.inr rfl) (RetOK.hv rfl RetOK.nil) ?_; (try dsimp only [tup])); rw [Format.check, if_neg (by assumption)]
  · rename_i h
    have h0 : f.form = 0 := by omega
    have hg := Format.form_grown h0
    refine GoOps.sub (AS.sub.frz [11] [(11, .list false 1 ([f.grown].map defs))] ⟨Fz.mp (f := defs) rfl rfl (fun _ => rfl) (by (first | rfl | omega | (simp only [List.length_take, List.length_drop, List.length_map, List.length_append, List.length_cons, List.length_nil] <;> omega))), trivial⟩) ?_
    refine GoOps.m (OpL.callO (lk [(6, 1000005), (7, 1000006)]) rfl rfl (collect_spec [f.grown] (by simp) (by simp; omega)) rfl rfl trivial (by rfl) (by rfl)
      (post := [(1000005, _), (1000006, _)])
      (by exact ⟨⟨rfl, ⟨rfl, ents_noId (fun _ => rfl) (fun _ => rfl)⟩, .inr rfl⟩, ⟨rfl, ⟨rfl, ents_noId (fun _ => rfl) (fun _ => rfl)⟩, .inr rfl⟩, trivial⟩) (by rfl) (by rfl)) ?_
    refine GoOps.m (OpL.callO (lk []) rfl rfl (mclash_spec _ _) rfl rfl (by exact ⟨⟨rfl, ents_noId (fun _ => rfl) (fun _ => rfl)⟩, ⟨rfl, ents_noId (fun _ => rfl) (fun _ => rfl)⟩, trivial⟩) (by rfl) (by rfl)
      (post := [(1000005, _), (1000006, _)])
      (by exact ⟨⟨rfl, ⟨rfl, ents_noId (fun _ => rfl) (fun _ => rfl)⟩, .inl rfl⟩, ⟨rfl, ⟨rfl, ents_noId (fun _ => rfl) (fun _ => rfl)⟩, .inl rfl⟩, trivial⟩) (by rfl) (by rfl)) ?_
    repeat' (first | refine GoC.seq ?_ | refine GoC.region rfl ?_ | refine GoC.skip ?_ | refine GoC.ret ?_ | (refine GoC.cond_d rfl ?_ ?_ <;> intro _ <;> try contradiction) | refine GoOps.nil ?_ | refine GoOps.a rfl ?_)
    · rename_i h1
      ((try dsimp only [thenA, inBlockA]); refine FnPost.many (.inr rfl) (RetOK.hv rfl RetOK.nil) ?_; (try dsimp only [tup])); rw [Format.check, if_pos h0, if_pos]
      simpa [clashL] using h1
    · rename_i h1
      ((try dsimp only [thenA, inBlockA]); refine FnPost.many (.inr rfl) (RetOK.hv rfl RetOK.nil) ?_; (try dsimp only [tup])); rw [Format.check, if_pos h0, if_neg]
      simpa [clashL] using h1
end Go.Proofs.YtfbjoamdkieamaaGreat.AM
end

section
set_option linter.unusedSimpArgs false
set_option linter.unusedVariables false
namespace Go.Proofs.YtfbjoamdkieamaaGreat.AM
open Go Go.Proofs

section
variable {κ ν : Type} [DecidableEq κ]
theorem mput_keys (m : List (κ × ν)) (a : κ) (v : ν) : (mput m a v).map (·.1) = if a ∈ m.map (·.1) then m.map (·.1) else m.map (·.1) ++ [a] := by
  induction m with
  | nil => simp [mput]
  | cons p m ih =>
    simp only [mput]
    by_cases h : a = p.1
    · simp [h]
    · rw [if_neg h]
      simp only [List.map_cons, List.mem_cons, h, false_or, ih]
      split <;> rfl
theorem mput_nodup {m : List (κ × ν)} (h : (m.map (·.1)).Nodup) (a : κ) (v : ν) : ((mput m a v).map (·.1)).Nodup := by
  rw [mput_keys]
  split
  · exact h
  · rename_i h1
    exact List.nodup_append.2 ⟨h, by simp, fun x hx y hy => by simp at hy; subst hy; exact fun he => h1 (he ▸ hx)⟩
theorem mput_key_mem {m : List (κ × ν)} (a : κ) (v : ν) (b : κ) : b ∈ (mput m a v).map (·.1) ↔ b = a ∨ b ∈ m.map (·.1) := by
  rw [mput_keys]
  split
  · rename_i h
    exact ⟨.inr, fun h' => h'.elim (fun e => e ▸ h) id⟩
  · rw [List.mem_append]; simp [or_comm]
theorem mput_mem {m : List (κ × ν)} {a : κ} {v : ν} {p : κ × ν} (h : p ∈ mput m a v) : p ∈ m ∨ p = (a, v) := by
  induction m with
  | nil => simpa [mput] using h
  | cons q m ih =>
    simp only [mput] at h
    split at h
    · rcases List.mem_cons.1 h with h | h
      · exact .inr h
      · exact .inl (List.mem_cons_of_mem _ h)
    · rcases List.mem_cons.1 h with h | h
      · exact .inl (h ▸ List.mem_cons_self)
      · rcases ih h with h | h
        · exact .inl (List.mem_cons_of_mem _ h)
        · exact .inr h
end

theorem allOf_aux (l : List Defect) : ∀ m : List (Int × Defect), (m.map (·.1)).Nodup → (∀ p ∈ m, p.1 = p.2.id) →
    ((l.foldl (fun m x => mput m x.id x) m).map (·.1)).Nodup ∧ (∀ p ∈ l.foldl (fun m x => mput m x.id x) m, p.1 = p.2.id ∧ (p ∈ m ∨ p.2 ∈ l)) ∧ (∀ b, b ∈ (l.foldl (fun m x => mput m x.id x) m).map (·.1) ↔ b ∈ m.map (·.1) ∨ ∃ x ∈ l, b = x.id) := by
  induction l with
  | nil => exact fun m h h' => ⟨h, fun p hp => ⟨h' p hp, .inl hp⟩, fun b => by simp⟩
  | cons x l ih =>
    intro m h h'
    obtain ⟨h1, h2, h3⟩ := ih (mput m x.id x) (mput_nodup h _ _) fun p hp => by
      rcases mput_mem hp with hp | rfl
      · exact h' p hp
      · rfl
    refine ⟨h1, fun p hp => ⟨(h2 p hp).1, ?_⟩, fun b => ?_⟩
    · rcases (h2 p hp).2 with hp | hp
      · rcases mput_mem hp with hp | rfl
        · exact .inl hp
        · exact .inr List.mem_cons_self
      · exact .inr (List.mem_cons_of_mem _ hp)
    · rw [List.foldl_cons, h3 b, mput_key_mem]
      constructor
      · rintro ((rfl | h) | ⟨y, hy, rfl⟩)
        · exact .inr ⟨x, List.mem_cons_self, rfl⟩
        · exact .inl h
        · exact .inr ⟨y, List.mem_cons_of_mem _ hy, rfl⟩
      · rintro (h | ⟨y, hy, rfl⟩)
        · exact .inl (.inr h)
        · rcases List.mem_cons.1 hy with rfl | hy
          · exact .inl (.inl rfl)
          · exact .inr ⟨y, hy, rfl⟩
theorem allOf_nodup (l : List Defect) : ((allOf l).map (·.1)).Nodup := (allOf_aux l [] List.nodup_nil (fun _ h => by simp at h)).1
theorem allOf_mem {l : List Defect} {p : Int × Defect} (h : p ∈ allOf l) : p.1 = p.2.id ∧ p.2 ∈ l := by
  obtain ⟨h1, h2⟩ := (allOf_aux l [] List.nodup_nil (fun _ h => by simp at h)).2.1 p h
  exact ⟨h1, h2.elim (fun h => by simp at h) id⟩
theorem allOf_key {l : List Defect} {x : Defect} (h : x ∈ l) : ∃ p ∈ allOf l, p.1 = x.id := by
  have := ((allOf_aux l [] List.nodup_nil (fun _ h => by simp at h)).2.2 x.id).2 (.inr ⟨x, h, rfl⟩)
  obtain ⟨p, hp, he⟩ := List.mem_map.1 this
  exact ⟨p, hp, he⟩
/-- Messages by Id: no two have one Id. -/
theorem allOf_ids (l : List Defect) : ((allOf l).map (·.2)).Pairwise (fun a b => a.id ≠ b.id) := by
  have h := allOf_nodup l
  rw [List.nodup_iff_pairwise_ne, List.pairwise_map] at h
  rw [List.pairwise_map]
  exact h.imp_of_mem fun ha hb hne => by rw [← (allOf_mem ha).1, ← (allOf_mem hb).1]; exact hne
theorem allOf_len (l : List Defect) : (allOf l).length ≤ l.length := by
  have key : ∀ (l : List Defect) (m : List (Int × Defect)), (l.foldl (fun m x => mput m x.id x) m).length ≤ m.length + l.length := by
    intro l
    induction l with
    | nil => intro m; simp
    | cons x l ih =>
      intro m
      have h1 := ih (mput m x.id x)
      have h2 : ((mput m x.id x).map (·.1)).length ≤ m.length + 1 := by
        rw [mput_keys]; split <;> simp
      rw [List.length_map] at h2
      simp only [List.foldl_cons, List.length_cons]
      omega
  simpa [allOf] using key l []

/-- Messages with the same Id are equal. -/
def agree (l : List Defect) : Prop := ∀ a ∈ l, ∀ b ∈ l, a.id = b.id → a = b
theorem allOf_vals {l : List Defect} (h : agree l) (x : Defect) : x ∈ (allOf l).map (·.2) ↔ x ∈ l := by
  constructor
  · intro hx
    obtain ⟨p, hp, rfl⟩ := List.mem_map.1 hx
    exact (allOf_mem hp).2
  · intro hx
    obtain ⟨p, hp, he⟩ := allOf_key hx
    have := allOf_mem hp
    exact List.mem_map.2 ⟨p, hp, h _ this.2 _ hx (by rw [← this.1]; exact he)⟩
theorem allOf_vals_nodup (l : List Defect) : ((allOf l).map (·.2)).Nodup := (allOf_ids l).imp fun h he => h (by rw [he])

theorem diffOf_aux (l : List Defect) : ∀ m : List (Defect × Int), (m.map (·.1)).Nodup →
    ((l.foldl (fun m x => mput m x ((mget m x).getD 0 + 1)) m).map (·.1)).Nodup ∧ (∀ b, b ∈ (l.foldl (fun m x => mput m x ((mget m x).getD 0 + 1)) m).map (·.1) ↔ b ∈ m.map (·.1) ∨ b ∈ l) := by
  induction l with
  | nil => exact fun m h => ⟨h, fun b => by simp⟩
  | cons x l ih =>
    intro m h
    obtain ⟨h1, h2⟩ := ih (mput m x ((mget m x).getD 0 + 1)) (mput_nodup h _ _)
    refine ⟨h1, fun b => ?_⟩
    rw [List.foldl_cons, h2 b, mput_key_mem, List.mem_cons]
    constructor
    · rintro ((h | h) | h)
      · exact .inr (.inl h)
      · exact .inl h
      · exact .inr (.inr h)
    · rintro (h | h | h)
      · exact .inl (.inr h)
      · exact .inl (.inl h)
      · exact .inr h
theorem diffOf_nodup (l : List Defect) : ((diffOf l).map (·.1)).Nodup := (diffOf_aux l [] List.nodup_nil).1
theorem diffOf_mem (l : List Defect) (x : Defect) : x ∈ (diffOf l).map (·.1) ↔ x ∈ l := by
  have := (diffOf_aux l [] List.nodup_nil).2 x
  exact this.trans ⟨fun h => h.elim (fun h => by simp at h) id, .inr⟩
theorem diff_all {l : List Defect} (h : agree l) : (diffOf l).length = (allOf l).length := by
  have : ((diffOf l).map (·.1)).Perm ((allOf l).map (·.2)) := (List.perm_ext_iff_of_nodup (diffOf_nodup l) (allOf_vals_nodup l)).2 fun x => by rw [diffOf_mem, allOf_vals h]
  simpa using this.length_eq
theorem all_perm {l l' : List Defect} (h : agree l) (h' : agree l') (hm : ∀ x, x ∈ l ↔ x ∈ l') : ((allOf l).map (·.2)).Perm ((allOf l').map (·.2)) :=
  (List.perm_ext_iff_of_nodup (allOf_vals_nodup l) (allOf_vals_nodup l')).2 fun x => by rw [allOf_vals h, allOf_vals h', hm]

/-- All messages, by Id. -/
def lDone (l : List Defect) : List Defect := sortId ((allOf l).map (·.2))
theorem inVD_all {l : List Defect} (h : inVD l) : inVD ((allOf l).map (·.2)) := fun d hd => by
  obtain ⟨p, hp, rfl⟩ := List.mem_map.1 hd
  exact h _ (allOf_mem hp).2
theorem lDone_eq {l l' : List Defect} (h : agree l) (h' : agree l') (hm : ∀ x, x ∈ l ↔ x ∈ l') (hv : inVD l') : lDone l = lDone l' := sortId_eq (all_perm h h' hm) (inVD_all hv) (allOf_ids l')
theorem lDone_perm {l : List Defect} (hv : inVD l) : (lDone l).Perm ((allOf l).map (·.2)) := sortId_perm (inVD_all hv)
theorem lDone_len {l : List Defect} (hv : inVD l) : (lDone l).length ≤ l.length := by
  have := (lDone_perm hv).length_eq
  have h2 := allOf_len l
  simp at this; omega
theorem lDone_mem {l : List Defect} (hv : inVD l) {x : Defect} (h : x ∈ lDone l) : x ∈ l := by
  have := (lDone_perm hv).mem_iff.1 h
  obtain ⟨p, hp, rfl⟩ := List.mem_map.1 this
  exact (allOf_mem hp).2
end Go.Proofs.YtfbjoamdkieamaaGreat.AM
end

section
set_option linter.unusedSimpArgs false
set_option linter.unusedVariables false
set_option maxHeartbeats 8000000
namespace Go.Proofs.YtfbjoamdkieamaaGreat.AM
open Go Go.Proofs

theorem sortedL_spec {l : List Defect} (hl : l.length ≤ 1000) (hv : inVD l) : Spec env 40 [.agg [.omap 1000005, .omap 1000006]]
    (ofL .free [(1000005, .map (ents (.int .i64) Defect.av (allOf l))), (1000006, .map (ents Defect.av (.int .i64) (diffOf l)))])
    (fun r H' => r = .list true 3 ((lDone l).map Defect.av) ∧ ∀ p ∈ [(1000005, HO.map (ents (.int .i64) Defect.av (allOf l))), (1000006, .map (ents Defect.av (.int .i64) (diffOf l)))], H' p.1 = p.2) :=
  sorted_spec _ _ (Nat.le_trans (allOf_len l) hl) (inVD_all hv) (allOf_ids l)

theorem Wks.RS {args args' : List AV} (h : Wks args' args) {m : Mem} : ∀ {vs : List Value}, RS m args' vs → RS m args vs := by
  induction args' generalizing args with
  | nil => intro vs h1; rw [show args = [] from h]; exact h1
  | cons x r ih =>
    obtain ⟨y, l', rfl, h1, h2⟩ := h
    rintro vs ⟨v, vs', rfl, h3, h4⟩
    exact ⟨v, vs', rfl, h1 _ _ h3, ih h2 h4⟩
theorem PSpec.wk {E : Env} {f : Nat} {args args' : List AV} {v : AV} (h : PSpec E f args v) (hw : Wks args' args) : PSpec E f args' v :=
  ⟨h.code, fun n m w vs hM hv => h.run n m w vs hM (hw.RS hv)⟩

def Format.merge (f : Format) (more : List Defect) : Format := copyF f f.primary (lDone (f.grown ++ more))
theorem Merge_spec (f : Format) (more : List Defect) (h1 : f.check = 0) (h2 : ({ f with grown := more } : Format).check = 0) (h3 : (diffOf (f.grown ++ more)).length ≤ 30) (h4 : ¬ clashL (f.grown ++ more)) (hz : f.disk.zones.length ≤ 1000) (hp : f.primary.length ≤ 1000) (hl : (f.grown ++ more).length ≤ 1000) (hv : inVD (f.grown ++ more)) :
    PSpec env 13 [f.av, defs more] (.tuple [(f.merge more).av, .int .i64 0]) := by
  have hs1 : PSpec env 36 [f.av] (.int .i64 0) := by rw [← h1]; exact lCheck_spec f
  have hs2 : PSpec env 36 [({ f with grown := more } : Format).av] (.int .i64 0) := by rw [← h2]; exact lCheck_spec _
  have hc : [f.grown, more].flatten = f.grown ++ more := by simp
  have hcol := collect_spec [f.grown, more] (by simp) (by rw [hc]; exact hl)
  rw [hc] at hcol
  have hwk : Wks [f.av, .list false 1 (f.primary.map (.int .i64)), .list true 3 ((lDone (f.grown ++ more)).map Defect.av)] [f.av, .list false 1 (f.primary.map (.int .i64)), .list false 3 ((lDone (f.grown ++ more)).map Defect.av)] := .cons (Wk.refl _) (.cons (Wk.refl _) (.cons (Wk.list _ _ _) .nil))
  have hcp := (copied_spec f false f.primary (lDone (f.grown ++ more)) hz (by omega)).wk hwk
  have h5 : ¬ (30 < ((diffOf (f.grown ++ more)).length : Int)) := by omega
  have h6 : (allOf (f.grown ++ more)).length < (diffOf (f.grown ++ more)).length ↔ False := iff_false_intro h4
  have hclash := mclash_spec (allOf (f.grown ++ more)) (diffOf (f.grown ++ more))
  rw [show decide ((allOf (f.grown ++ more)).length < (diffOf (f.grown ++ more)).length) = false from decide_eq_false h4] at hclash
  have hsort := sortedL_spec hl hv
  show PSpec env 13 [f.av, defs more] (.tuple [(copyF f f.primary (lDone (f.grown ++ more))).av, .int .i64 0])
  generalize f.grown ++ more = l at *
  refine Spec.introR (nt := _) (rs := [_, _]) Tryz.func13 rfl rfl rfl rfl rfl [] (fun _ h => absurd rfl h) fun X hX => ?_
  repeat' (first | refine GoC.seq ?_ | refine GoC.region rfl ?_ | refine GoC.skip ?_ | refine GoC.cond_f rfl ?_ | refine GoOps.nil ?_ | refine GoOps.a rfl ?_ | refine GoOps.b rfl ?_ | refine GoOps.m (OpL.row rfl) ?_ | refine GoOps.m (OpL.boxw (by rfl) rfl rfl rfl rfl) ?_ | refine GoOps.n (OpL.st1 rfl) ?_ | refine GoOps.p (OpL.call rfl rfl (hs1) rfl rfl) ?_ | refine GoOps.p (OpL.call rfl rfl (hs2) rfl rfl) ?_)
  refine GoOps.sub (AS.sub.frz [28] [(28, .list false 1 ([f.grown, more].map defs))] ⟨Fz.mp (f := defs) rfl rfl (fun _ => rfl) (by (first | rfl | omega | (simp only [List.length_take, List.length_drop, List.length_map, List.length_append, List.length_cons, List.length_nil] <;> omega))), trivial⟩) ?_
  refine GoOps.m (OpL.callO (lk [(6, 1000005), (7, 1000006)]) rfl rfl hcol rfl rfl trivial (by rfl) (by rfl)
      (post := [(1000005, _), (1000006, _)])
      (by exact ⟨⟨rfl, ⟨rfl, ents_noId (fun _ => rfl) (fun _ => rfl)⟩, .inr rfl⟩, ⟨rfl, ⟨rfl, ents_noId (fun _ => rfl) (fun _ => rfl)⟩, .inr rfl⟩, trivial⟩) (by rfl) (by rfl)) ?_
  repeat' (first | refine GoC.seq ?_ | refine GoC.block ?_ | refine GoC.region rfl ?_ | (refine GoC.cond_d rfl ?_ ?_ <;> intro _ <;> try contradiction) | refine GoOps.nil ?_ | refine GoOps.a rfl ?_ | refine GoOps.b rfl ?_ | refine GoOps.n (OpL.st1 rfl) ?_ | refine GoOps.p (OpL.lenMap rfl rfl rfl) ?_)
  refine GoOps.m (OpL.callO (lk []) rfl rfl hclash rfl rfl (by exact ⟨⟨rfl, ents_noId (fun _ => rfl) (fun _ => rfl)⟩, ⟨rfl, ents_noId (fun _ => rfl) (fun _ => rfl)⟩, trivial⟩) (by rfl) (by rfl)
      (post := [(1000005, _), (1000006, _)])
      (by exact ⟨⟨rfl, ⟨rfl, ents_noId (fun _ => rfl) (fun _ => rfl)⟩, .inl rfl⟩, ⟨rfl, ⟨rfl, ents_noId (fun _ => rfl) (fun _ => rfl)⟩, .inl rfl⟩, trivial⟩) (by rfl) (by rfl)) ?_
  repeat' (first | refine GoC.seq ?_ | refine GoC.draw env_mixed ?_ | refine GoC.skip ?_ | refine GoC.cond_f rfl ?_ | refine GoOps.nil ?_ | refine GoOps.a rfl ?_ | refine GoD.a rfl ?_)
  refine GoD.m (OpL.callO (lk []) rfl rfl hsort rfl rfl (by exact ⟨⟨rfl, ents_noId (fun _ => rfl) (fun _ => rfl)⟩, ⟨rfl, ents_noId (fun _ => rfl) (fun _ => rfl)⟩, trivial⟩) (by rfl) (by rfl)
      (post := [(1000005, _), (1000006, _)])
      (by exact ⟨⟨rfl, ⟨rfl, ents_noId (fun _ => rfl) (fun _ => rfl)⟩, .inl rfl⟩, ⟨rfl, ⟨rfl, ents_noId (fun _ => rfl) (fun _ => rfl)⟩, .inl rfl⟩, trivial⟩) (by rfl) (by rfl)) ?_
  repeat' (first | refine GoC.ret ?_ | refine GoD.done rfl rfl (by kernel_rfl) ?_ | refine GoD.a rfl ?_ | refine GoD.n (OpL.st1 rfl) ?_ | refine GoD.p (OpL.call rfl rfl (hcp) rfl rfl) ?_)
  refine FnPost.by (.inr rfl) (AS.sub.refl _) (RetOK.cellF rfl rfl rfl rfl rfl (RetOK.hv rfl RetOK.nil)) ?_
  rfl
end Go.Proofs.YtfbjoamdkieamaaGreat.AM
end

section
set_option linter.unusedSimpArgs false
set_option linter.unusedVariables false
set_option maxHeartbeats 8000000
namespace Go.Proofs.YtfbjoamdkieamaaGreat.AM
open Go Go.Proofs

structure Zr where
  from_ : Int
  to_ : Int
  deriving DecidableEq, Inhabited
def Zr.av (z : Zr) : AV := .agg [.int .i64 z.from_, .int .i64 z.to_]
structure Plan where
  blocks : List Int
  free : List (List Int)
  given : List (Int × Int)
  deriving Inhabited
abbrev intsL (l : List Int) : AV := .list false 1 (l.map (.int .i64))
def planAv (f : Format) (nb nf : Nat) : AV := .agg [.int .i64 f.disk.heads, .int .i64 f.disk.turn, .list false 2 (f.disk.zones.map Zone.av), .int .i64 f.disk.headSkew, .int .i64 f.disk.cylSkew, .int .i64 f.disk.hs.low, .int .i64 f.disk.hs.high, .int .i64 f.disk.cs.low, .int .i64 f.disk.cs.high,
  .int .i64 f.spares, .list false 1 (f.primary.map (.int .i64)), .list false 3 (f.grown.map Defect.av), .sl true 1000041 1 0 nb, .sl true 1000042 1 0 nf, .omap 1000043]
def planO (f : Format) (p : Plan) : List (Nat × HO) := [(1000040, .arr 63 15 [planAv f p.blocks.length p.free.length]), (1000041, .arr 3 1 (p.blocks.map (.int .i64))), (1000042, .arr 27 1 (p.free.map intsL)), (1000043, .map (ents (.int .i64) (.int .i64) p.given))]

def zat (d : Disk) (i : Nat) : Int := sumOf (fun z => z.cyl * z.sec * d.heads) (d.zones.take i)
def zrs (d : Disk) (n : Nat) : List Zr := (List.range n).map fun i => ⟨zat d i, zat d (i + 1)⟩
def Disk.zr (d : Disk) : List Zr := zrs d d.zones.length
theorem zrs_succ (d : Disk) (n : Nat) : zrs d (n + 1) = zrs d n ++ [⟨zat d n, zat d (n + 1)⟩] := by simp [zrs, List.range_succ]
theorem zrs_len (d : Disk) (n : Nat) : (zrs d n).length = n := by simp [zrs]

theorem pzones_spec (f : Format) (p : Plan) (hd : f.disk.Good) : Spec env 54 [.ptr 1000040 15 0 0] (ofL .free (planO f p)) (fun r H' => r = .list true 2 (f.disk.zr.map Zr.av) ∧ ∀ q ∈ planO f p, H' q.1 = q.2) := by
  refine Spec.introR (nt := _) (rs := [_]) Tryz.func54 rfl rfl rfl rfl rfl [1000040, 1000041, 1000042, 1000043] (fun i h => ofL_keys _ i h) fun X hX => ?_
  simp only [planO]
  repeat' (first | refine GoC.seq ?_ | refine GoC.block ?_ | refine GoC.region rfl ?_ | refine GoOps.nil ?_ | refine GoOps.a rfl ?_ | refine GoOps.p (OpL.len rfl rfl) ?_)
  refine GoC.loop (G := Nat) (fun i => ⟨ofL .junk [(0, .ptr 1000040 15 0 0), (3, .sl true 1000003 2 0 i), (4, .int .i64 (zat f.disk i)), (13, .list false 2 (f.disk.zones.map Zone.av)), (14, .int .i64 f.disk.zones.length), (15, .int .i64 i)],
      ofL .free (planO f p ++ [(1000003, .arr 90 2 ((zrs f.disk i).map Zr.av))]), [1000040, 1000041, 1000042, 1000043]⟩)
    (fun i => i ≤ f.disk.zones.length) (fun i => f.disk.zones.length - i) 0 (Nat.zero_le _) ((AS.sub.nilrow 3 1000003 90 2 rfl rfl).trans (by (refine AS.sub.mk' _ _ (lk []) rfl rfl ?_ ?_ <;> repeat' (first | exact True.intro | rfl | exact Wk.refl _ | exact ⟨_, rfl, Elems.all rfl⟩ | exact ⟨_, rfl, Elems.mapped (fun _ => rfl) rfl⟩ | exact ⟨rfl, ents_noId (fun _ => rfl) (fun _ => rfl)⟩ | exact ⟨_, rfl, Elems.ren (Wks.refl _) rfl⟩ | refine And.intro ?_ ?_)))) ?_
  intro i hi R hR
  have hlen := hd.len
  have hh := hd.heads
  have h1 := hd.cnt i
  have h2 := hd.cnt (i + 1)
  have hz : i < f.disk.zones.length → (1 ≤ (f.disk.zones.getD i default).cyl ∧ (f.disk.zones.getD i default).cyl ≤ 20) ∧ 1 ≤ (f.disk.zones.getD i default).sec ∧ (f.disk.zones.getD i default).sec ≤ 16 := fun h => hd.zone _ (mem_gd h)
  have ht : i < f.disk.zones.length → zat f.disk (i + 1) = zat f.disk i + (f.disk.zones.getD i default).cyl * (f.disk.zones.getD i default).sec * f.disk.heads := fun h => sumOf_take _ h
  simp only [planO, List.cons_append, List.nil_append]
  change 0 ≤ zat f.disk i ∧ zat f.disk i ≤ 5120 at h1
  change 0 ≤ zat f.disk (i + 1) ∧ zat f.disk (i + 1) ≤ 5120 at h2
  have hm : i < f.disk.zones.length → (0 ≤ f.disk.heads * (f.disk.zones.getD i default).cyl ∧ f.disk.heads * (f.disk.zones.getD i default).cyl ≤ 80) ∧ (0 ≤ f.disk.heads * (f.disk.zones.getD i default).cyl * (f.disk.zones.getD i default).sec ∧ f.disk.heads * (f.disk.zones.getD i default).cyl * (f.disk.zones.getD i default).sec ≤ 1280) ∧
      zat f.disk (i + 1) = zat f.disk i + f.disk.heads * (f.disk.zones.getD i default).cyl * (f.disk.zones.getD i default).sec := fun h => by
    have hz := hz h
    have a1 : f.disk.heads * (f.disk.zones.getD i default).cyl ≤ 4 * 20 := Int.mul_le_mul hh.2 hz.1.2 (by omega) (by omega)
    have a2 : 0 ≤ f.disk.heads * (f.disk.zones.getD i default).cyl := Int.mul_nonneg (by omega) (by omega)
    have a3 : f.disk.heads * (f.disk.zones.getD i default).cyl * (f.disk.zones.getD i default).sec ≤ 80 * 16 := Int.mul_le_mul (by omega) hz.2.2 (by omega) (by omega)
    have a4 : 0 ≤ f.disk.heads * (f.disk.zones.getD i default).cyl * (f.disk.zones.getD i default).sec := Int.mul_nonneg a2 (by omega)
    refine ⟨⟨a2, by omega⟩, ⟨a4, by omega⟩, ?_⟩
    rw [ht h, Int.mul_assoc f.disk.heads, Int.mul_comm f.disk.heads]
  have hzl := zrs_len f.disk i
  repeat' (first | refine GoC.seq ?_ | refine GoC.block ?_ | refine GoC.region rfl ?_ | refine GoC.draw env_mixed ?_ | refine GoC.skip ?_ | refine GoC.exit ?_ | refine GoC.ret ?_ | (refine GoC.cond_d rfl ?_ ?_ <;> intro _ <;> try contradiction) | refine GoOps.nil ?_ | refine GoD.done rfl rfl (by kernel_rfl) ?_ | refine GoOps.a rfl ?_ | refine GoD.a rfl ?_ | refine GoOps.b rfl ?_ | refine GoOps.p (OpL.idx rfl rfl (by with_reducible exact rfl) rfl rfl rfl rfl (by (first | assumption | omega))) ?_ | refine GoOps.p (OpL.add rfl rfl (by (first | assumption | omega))) ?_ | refine GoOps.p (OpL.build rfl) ?_ | refine GoOps.m (OpL.row rfl) ?_ | refine GoOps.m (OpL.app rfl rfl rfl rfl rfl rfl rfl rfl rfl rfl rfl (by (first | rfl | omega | (simp only [List.length_take, List.length_drop, List.length_map, List.length_append, List.length_cons, List.length_nil] <;> omega))) (by (first | rfl | omega | (simp only [List.length_take, List.length_drop, List.length_map, List.length_append, List.length_cons, List.length_nil] <;> omega))) (by (first | rfl | omega | (simp only [List.length_take, List.length_drop, List.length_map, List.length_append, List.length_cons, List.length_nil] <;> omega)))) ?_ | refine GoD.p (OpL.mul rfl rfl (by (first | assumption | omega))) ?_ | refine GoOps.n (OpL.st1 rfl) ?_)
  · have hm := hm (by omega)
    skip
    refine hR (i + 1) _ (by omega) (by omega) ?_
    rw [zrs_succ, hm.2.2]
    simp only [planO, List.cons_append, List.nil_append]
    refine AS.sub.mk' _ _ (lk [(1000003, 38)]) rfl rfl ?_ ?_ <;> repeat' (first | exact True.intro | rfl | exact Wk.refl _ | exact Wk.of_eq (congrArg (AV.sl _ _ _ _) (by (first | rfl | omega | (simp only [List.length_take, List.length_drop, List.length_map, List.length_append, List.length_cons, List.length_nil] <;> omega)))) | exact ⟨_, rfl, Elems.mapped (fun _ => rfl) rfl⟩ | exact ⟨_, rfl, Elems.of_eq (by rw [List.map_append]; rfl) (noId_map (fun _ => rfl) _)⟩ | exact ⟨rfl, ents_noId (fun _ => rfl) (fun _ => rfl)⟩ | exact ⟨_, rfl, Elems.ren (Wks.refl _) rfl⟩ | refine And.intro ?_ ?_)
  · have e : i = f.disk.zones.length := by omega
    subst e
    refine FnPost.by (.inr rfl) (AS.sub.frz [1000003] [(2, .list true 2 (f.disk.zr.map Zr.av))] ⟨Fz.mp rfl rfl (fun _ => rfl) (by simp [Disk.zr, zrs_len]), trivial⟩) (RetOK.hv rfl RetOK.nil) ?_
    refine ⟨rfl, fun q hq => ?_⟩
    simp only [List.mem_cons, List.not_mem_nil, or_false] at hq
    rcases hq with rfl | rfl | rfl | rfl <;> rfl
end Go.Proofs.YtfbjoamdkieamaaGreat.AM
end

section
set_option linter.unusedSimpArgs false
set_option linter.unusedVariables false
set_option maxHeartbeats 8000000
namespace Go.Proofs.YtfbjoamdkieamaaGreat.AM
open Go Go.Proofs Go.Sort

theorem MemOK.freeze {r0 : Nat → Option Obj} {w0 w : World} {mu : Nat → Prop} {m : Mem} {H : Nat → HO} (hM : MemOK r0 w0 mu m H w) (S : List Nat) : MemOK r0 w0 mu (m.frz S H w) (updL H (S.map fun i => (i, .dead))) w := by
  have hle := hM.frz_le (S := S)
  have hdead : ∀ i, (updL H (S.map fun i => (i, HO.dead)) i = H i ∧ i ∉ S) ∨ (updL H (S.map fun i => (i, HO.dead)) i = .dead) := by
    intro i
    by_cases hi : i ∈ S
    · right
      have hk : i ∈ keys (S.map fun i => (i, HO.dead)) := by simpa [keys, List.map_map, Function.comp_def] using hi
      rcases updL_mem (f := fun _ => HO.dead) (l := S.map fun i => (i, HO.dead)) (i := i) with h | h
      · rw [updL_in hk, h]
      · rw [updL_in (f' := fun _ => HO.dead) hk]
        obtain ⟨j, _, hj⟩ := List.mem_map.1 h
        exact (Prod.mk.inj hj).2.symm
    · left
      exact ⟨updL_not (by simpa [keys, List.map_map, Function.comp_def] using hi), hi⟩
  have hlv : ∀ i, (updL H (S.map fun i => (i, HO.dead)) i).live = true → (H i).live = true ∧ i ∉ S := by
    intro i h
    rcases hdead i with ⟨h1, h2⟩ | h1
    · rw [h1] at h; exact ⟨h, h2⟩
    · rw [h1] at h; simp [HO.live] at h
  exact {
      os := hM.os
      tape := hM.tape
      output := hM.output
      size := hM.size
      block := hM.block
      ro := hM.frz_ro
      told := fun b o h => by
        simp only [Mem.frz] at h
        split at h
        · rename_i h'
          by_cases hb : b < w0.heap.size
          · exact .inr (.inr ((hM.frz_in h').2 hb))
          · exact .inr (.inl (Nat.not_lt.1 hb))
        · exact hM.told b o h
      obj := fun i => by
        rcases hdead i with ⟨h1, h2⟩ | h1
        · rw [h1]; exact HOok.mono hle rfl (fun _ _ _ => rfl) (hM.obj i)
        · rw [h1]; trivial
      mine := fun i L hl hL => by
        obtain ⟨h1, h2⟩ := hlv i hl
        refine ⟨?_, (hM.mine i L h1 hL).2⟩
        have : ¬ inS S H m L.blk := by
          rintro ⟨j, L', hj, hj1, hj2, hj3⟩
          exact hM.apart j i L' L (fun h => h2 (h ▸ hj)) hj1 h1 hj2 hL hj3
        simp only [Mem.frz, if_neg this]
        exact (hM.mine i L h1 hL).1
      apart := fun i j L L' hij hl hl' hL hL' => hM.apart i j L L' hij (hlv i hl).1 (hlv j hl').1 hL hL' }

/-! ### Rows of numbers -/
def encI1 (x : Int) : List Value := [.int .i64 x]
theorem told_I : Told (AV.int .i64) encI1 1 where
  to m a v h := by rw [show v = .int .i64 a from h]; rfl
  from_ a := ⟨.int .i64 a, rfl, fun m => rfl⟩
  len _ := rfl
  one a v h := by simp only [encI1, List.mem_singleton] at h; subst h; rfl
theorem flatI (d : Array Int) : flatK encI1 1 d = d.map (Value.int .i64) := by
  refine ext_get! (by simp) fun t ht => ?_
  rw [size_flatK] at ht
  rw [get_flatK _ _ _ _ ht]
  have h1 : t / 1 = t := Nat.div_one t
  have h2 : t % 1 = 0 := Nat.mod_one t
  rw [h1, h2]
  have ht' : t < d.size := by omega
  simp [encI1, ht']
theorem putRow_I (w : World) (blk off : Nat) (d : Array Int) : putRow (Value.int .i64) w blk off d = putRowK encI1 1 w blk off d := by
  unfold putRowK putRow
  rw [flatI]
  congr 1
  funext c
  unfold putCells
  apply Array.ext (by simp)
  intro i h1 h2
  simp only [Array.getElem_mapIdx, Array.size_map]
  split
  · rename_i h
    have : i - off < d.size := by omega
    simp [this]
  · rfl
theorem holds_I {w : World} {blk off : Nat} {d : Array Int} (h : HoldsK encI1 1 w blk off d) : Holds (Value.int .i64) w blk off d := by
  intro j hj
  have := h j (by rw [size_flatK]; omega)
  rw [flatI] at this
  simpa [hj] using this
theorem grow0 (w : World) : Go.Sort.grow w #[] = w := by simp [Go.Sort.grow]

section
variable {T : Nat → AV} {H : Nat → HO} {d : Option Tmp} {ty : TypeId} {pos : String} {af : Array Edge} {g : Option (Nat × Bool)}

/-- slices.BinarySearch in numbers in order. -/
theorem OpL.bsI {F S Y : Operand} {ats : Array TypeId} {c : Bool} {l : List Int} {x : Int} (hF : ev T F = .fn (.func 73) [] []) (hs : ev T S = .list c 1 (l.map (.int .i64))) (hX : ev T Y = .int .i64 x) (hso : l.Pairwise (· ≤ ·)) (hl : l.length ≤ 1000000) :
    OpL env ⟨d, .call { callee := .value F, args := #[S, Y], argTypes := ats }, ty, pos, af, g⟩ T H [] [] (.tuple [.int .i64 (l.countP (· < x) : Nat), .bool (l.contains x)]) := by
  refine ⟨fun r n m a w r0 w0 mu H' next Q hT hM hr hn => ?_⟩
  have h1 := hT F (by simp [Op.operands, Call.operands]); rw [hF] at h1
  have h2 := hT S (by simp [Op.operands, Call.operands]); rw [hs] at h2
  have h3 := hT Y (by simp [Op.operands, Call.operands]); rw [hX] at h3
  obtain ⟨fs, cs, h1, rfl, rfl⟩ := h1
  have h3 : a.eval Y = .int .i64 x := h3
  obtain ⟨ad, cap, h2, h4, h5, h6, h7⟩ := h2
  have hs0 : (#[S, Y] : Array Operand) = [S, Y].toArray := rfl
  rw [hs0]
  refine wpIn_contract (al := [S, Y]) (fs := []) (cs := []) h1 ⟨_, Tryz.func73, rfl, rfl⟩ ?_
  simp only [List.nil_append, List.map_cons, List.map_nil, List.append_nil]
  rw [h2, h3]
  simp only [List.length_map] at *
  by_cases hx : l = []
  · subst hx
    refine (Any.slices_BinarySearch_int_empty Tryz.laysNm225 ad cap x w).mono ?_
    rintro e w' ⟨rfl, rfl⟩
    exact ⟨_, rfl, hn m _ w' (Mem.le.refl m) hM ⟨[_, _], rfl, ⟨_, _, rfl, rfl, ⟨_, _, rfl, rfl, rfl⟩⟩⟩⟩
  · obtain ⟨b, o, cells, T0, fr, rfl, k2, k3⟩ := h7 (by simpa using hx)
    have hb := hM.ro _ _ k2
    have key := Any.slices_BinarySearch_int Tryz.laysNm225 b o l.length cap l x w (Nat.le_refl _) (by omega) (fun j hj => by
        obtain ⟨u, j1, j2, j3⟩ := RRow_get k3 j (by simpa using hj)
        have e : (l.map (AV.int .i64)).getD j .junk = .int .i64 l[j] := by simp [List.getD_eq_getElem?_getD, hj]
        rw [e] at j1
        have j1 : u = .int .i64 l[j] := j1
        subst j1
        have j4 := j3 0 (by omega)
        simp only [Nat.mul_one, Nat.add_zero] at j4
        simp only [World.cell?, hb]
        rw [j4]
        simp [List.getD_eq_getElem?_getD, hj]; rfl) (by rwa [List.take_length])
    rw [List.take_length] at key
    refine key.mono ?_
    rintro e w' ⟨rfl, q, rfl⟩
    exact ⟨_, rfl, hn m _ _ (Mem.le.refl m) (hM.world rfl rfl rfl (Nat.le_refl _) fun _ _ => rfl) ⟨[_, _], rfl, ⟨_, _, rfl, rfl, ⟨_, _, rfl, rfl, rfl⟩⟩⟩⟩

/-- slices.Sort of numbers. -/
theorem OpL.sortI {F S : Operand} {ats : Array TypeId} {c : Bool} {id len t : Nat} {l : List Int} (hF : ev T F = .fn (.func 58) [] []) (hs : ev T S = .sl c id 1 0 len) (hH : H id = .arr t 1 (l.map (.int .i64))) (hlen : len = l.length) (hl : l.length ≤ 1000000) :
    OpL env ⟨d, .call { callee := .value F, args := #[S], argTypes := ats }, ty, pos, af, g⟩ T H [id] [(id, .arr t 1 ((l.mergeSort fun x y => decide (x ≤ y)).map (.int .i64)))] (.tuple []) := by
  refine ⟨fun r n m a w r0 w0 mu H' next Q hT hM hr hn => ?_⟩
  have h1 := hT F (by simp [Op.operands, Call.operands]); rw [hF] at h1
  have h2 := hT S (by simp [Op.operands, Call.operands]); rw [hs] at h2
  obtain ⟨fs, cs, h1, rfl, rfl⟩ := h1
  have hH' : H' id = .arr t 1 (l.map (.int .i64)) := by rw [hr id (by simp)]; exact hH
  have hs0 : (#[S] : Array Operand) = [S].toArray := rfl
  rw [hs0]
  refine wpIn_contract (al := [S]) (fs := []) (cs := []) h1 ⟨_, Tryz.func58, rfl, rfl⟩ ?_
  simp only [List.nil_append, List.map_cons, List.map_nil, List.append_nil]
  obtain ⟨ol, h4, h5, h6⟩ := h2
  have hnone : l = [] → ∀ p cap, a.eval S = .slice p 0 cap → Calls env.P 58 [a.eval S].toArray w fun e w' => ∃ v, e = .returned v ∧ next (a.put d v) w' := by
    intro hx p cap hp
    rw [hp]
    refine (Any.slices_Sort_int_none Tryz.lays189 p cap w).mono ?_
    rintro e w' ⟨rfl, rfl⟩
    refine ⟨_, rfl, hn m _ w' (Mem.le.refl m) ?_ ⟨[], rfl, rfl⟩⟩
    have : (l.mergeSort fun x y => decide (x ≤ y)) = l := by subst hx; simp
    rw [this]
    have hu : updL H' [(id, .arr t 1 (l.map (.int .i64)))] = H' := by
      funext i
      simp only [updL]
      by_cases hi : i = id
      · subst hi; rw [upd_same, hH']
      · rw [upd_ne _ _ _ _ hi]
    rw [hu]; exact hM
  by_cases hx : l = []
  · have hl0 : len = 0 := by rw [hlen, hx]; rfl
    cases ol with
    | none => obtain ⟨h5, _, _⟩ := h5; exact hnone hx none 0 h5
    | some L =>
      obtain ⟨ad, h5, _⟩ := h5
      rw [hl0] at h5
      exact hnone hx (some ad) (L.cap - 0) h5
  · have hpos : 0 < l.length := List.length_pos_iff.2 hx
    cases ol with
    | none => obtain ⟨_, h7, _⟩ := h5; omega
    | some L =>
      obtain ⟨ad, h7, h8, h9, h10⟩ := h5
      have had := h10 (by omega)
      rw [Nat.zero_mul] at had
      subst had
      have hob := hM.obj id
      rw [hH'] at hob
      obtain ⟨ol2, k1, _, k3⟩ := hob
      rw [h4] at k1
      obtain ⟨cells, hb, hcs, hle, hrow⟩ := k3 L (Option.some.inj k1).symm
      have key := Any.slices_Sort_int Tryz.lays189 L.blk 0 (L.cap - 0) l w (holds_I (holdsK_of told_I hb hrow)) (block_lt hb) (by omega)
      rw [h7, hlen]
      refine key.mono ?_
      rintro e' w' ⟨rfl, q, os, rfl⟩
      have hM' := hM.sorted told_I (ys := l.mergeSort fun x y => decide (x ≤ y)) hH' h4 (by simp) q os
      rw [putRow_I]
      exact ⟨_, rfl, hn m _ _ (Mem.le.refl m) hM' ⟨[], rfl, rfl⟩⟩

/-- slices.Delete of numbers; what is left is read alone. -/
theorem OpL.delI {F S A B : Operand} {ats : Array TypeId} {c : Bool} {id len t i j : Nat} {l : List Int} (hF : ev T F = .fn (.func 74) [] []) (hs : ev T S = .sl c id 1 0 len) (hA : ev T A = .int .i64 i) (hB : ev T B = .int .i64 j) (hH : H id = .arr t 1 (l.map (.int .i64))) (hlen : len = l.length) (hl : l.length ≤ 1000000) (hij : i ≤ j) (hj : j ≤ l.length) (h0 : l ≠ []) :
    OpL env ⟨d, .call { callee := .value F, args := #[S, A, B], argTypes := ats }, ty, pos, af, g⟩ T H [id] [(id, .dead)] (.list false 1 ((l.take i ++ l.drop j).map (.int .i64))) := by
  refine ⟨fun r n m a w r0 w0 mu H' next Q hT hM hr hn => ?_⟩
  have h1 := hT F (by simp [Op.operands, Call.operands]); rw [hF] at h1
  have h2 := hT S (by simp [Op.operands, Call.operands]); rw [hs] at h2
  have h3 := hT A (by simp [Op.operands, Call.operands]); rw [hA] at h3
  have h3' := hT B (by simp [Op.operands, Call.operands]); rw [hB] at h3'
  obtain ⟨fs, cs, h1, rfl, rfl⟩ := h1
  have h3 : a.eval A = .int .i64 i := h3
  have h3' : a.eval B = .int .i64 j := h3'
  have hH' : H' id = .arr t 1 (l.map (.int .i64)) := by rw [hr id (by simp)]; exact hH
  have hs0 : (#[S, A, B] : Array Operand) = [S, A, B].toArray := rfl
  rw [hs0]
  refine wpIn_contract (al := [S, A, B]) (fs := []) (cs := []) h1 ⟨_, Tryz.func74, rfl, rfl⟩ ?_
  simp only [List.nil_append, List.map_cons, List.map_nil, List.append_nil]
  obtain ⟨ol, h4, h5, h6⟩ := h2
  have hpos : 0 < l.length := List.length_pos_iff.2 h0
  cases ol with
  | none => obtain ⟨_, h7, _⟩ := h5; omega
  | some L =>
    obtain ⟨ad, h7, h8, h9, h10⟩ := h5
    have had := h10 (by omega)
    rw [Nat.zero_mul] at had
    subst had
    have hob := hM.obj id
    rw [hH'] at hob
    obtain ⟨ol2, k1, _, k3⟩ := hob
    rw [h4] at k1
    obtain ⟨cells, hb, hcs, hle, hrow⟩ := k3 L (Option.some.inj k1).symm
    have key := Any.slices_Delete_int Tryz.laysNm223 L.blk 0 (L.cap - 0) i j l w (holds_I (holdsK_of told_I hb hrow)) (by simp at hle; omega) (by unfold maxLen at h9; omega) hij hj
    rw [h7, hlen, h3, h3']
    refine key.mono ?_
    rintro e' w' ⟨rfl, q, rfl⟩
    have hM' := hM.sorted told_I (ys := l.take i ++ l.drop j ++ List.replicate (j - i) 0) hH' h4 (by simp; omega) q #[]
    have hwe : putRow (Value.int .i64) (Sort.ahead w q) L.blk 0 (l.take i ++ l.drop j ++ List.replicate (j - i) 0).toArray = sortWorldK encI1 1 w L.blk 0 q (l.take i ++ l.drop j ++ List.replicate (j - i) 0).toArray #[] := by
      rw [putRow_I]; exact (grow0 _).symm
    rw [hwe]
    have hR : R m (.sl false id 1 0 (l.length - (j - i))) (.slice (some ⟨L.blk, 0, none⟩) (l.length - (j - i)) (L.cap - 0)) := ⟨some L, h4, ⟨_, rfl, by omega, h9, fun _ => by simp⟩, fun h => by cases h⟩
    have hfz := hM'.frz_sl (S := [id]) (off := 0) (len := l.length - (j - i)) (by simp) (upd_same _ _ _) (noId_map (fun _ => rfl) _) (by simp; omega) hR
    have he : ((l.take i ++ l.drop j ++ List.replicate (j - i) 0).map (AV.int .i64)).take (l.length - (j - i)) = (l.take i ++ l.drop j).map (AV.int .i64) := by
      rw [List.map_append, List.take_left' (by simp; omega)]
    rw [List.drop_zero, he] at hfz
    have hM2 := hM'.freeze [id]
    have hup : updL (upd H' id (.arr t 1 ((l.take i ++ l.drop j ++ List.replicate (j - i) 0).map (AV.int .i64)))) ([id].map fun i => (i, HO.dead)) = updL H' [(id, .dead)] := by
      funext k
      simp only [List.map_cons, List.map_nil, updL]
      by_cases hk : k = id
      · subst hk; rw [upd_same, upd_same]
      · rw [upd_ne _ _ _ _ hk, upd_ne _ _ _ _ hk, upd_ne _ _ _ _ hk]
    rw [hup] at hM2
    exact ⟨_, rfl, hn _ _ _ (hM'.frz_le (S := [id])) hM2 hfz⟩
end
end Go.Proofs.YtfbjoamdkieamaaGreat.AM
end

section
set_option linter.unusedSimpArgs false
set_option linter.unusedVariables false
namespace Go.Proofs.YtfbjoamdkieamaaGreat.AM
open Go
section
variable {α : Type} [Inhabited α]

theorem ext_getD {l l' : List α} (hl : l.length = l'.length) (h : ∀ i, i < l.length → l.getD i default = l'.getD i default) : l = l' := by
  refine List.ext_getElem hl fun i h1 h2 => ?_
  have := h i h1
  rwa [gd h1, gd h2] at this
theorem getD_set (l : List α) (i j : Nat) (y : α) : (l.set i y).getD j default = if j = i ∧ i < l.length then y else l.getD j default := by
  simp only [List.getD_eq_getElem?_getD, List.getElem?_set]
  by_cases h : i = j
  · subst h
    by_cases h2 : i < l.length
    · simp [h2]
    · simp [h2]
  · simp [h, Ne.symm h]
def mkL (n : Nat) (f : Nat → α) : List α := (List.range n).map f
omit [Inhabited α] in
theorem mkL_len (n : Nat) (f : Nat → α) : (mkL n f).length = n := by simp [mkL]
theorem getD_mkL (n : Nat) (f : Nat → α) (i : Nat) : (mkL n f).getD i default = if i < n then f i else default := by
  unfold mkL
  by_cases h : i < n
  · simp [List.getD_eq_getElem?_getD, h]
  · simp [List.getD_eq_getElem?_getD, h]

/-- The rows of n from a on and from b on, exchanged. -/
def swapR (l : List α) (a b n : Nat) : List α :=
  mkL l.length fun x => if a ≤ x ∧ x < a + n then l.getD (x - a + b) default else if b ≤ x ∧ x < b + n then l.getD (x - b + a) default else l.getD x default
theorem swapR_len (l : List α) (a b n : Nat) : (swapR l a b n).length = l.length := mkL_len _ _
theorem getD_swapR (l : List α) (a b n i : Nat) (hi : i < l.length) : (swapR l a b n).getD i default = if a ≤ i ∧ i < a + n then l.getD (i - a + b) default else if b ≤ i ∧ i < b + n then l.getD (i - b + a) default else l.getD i default := by
  rw [swapR, getD_mkL, if_pos hi]
theorem swapR_zero (l : List α) (a b : Nat) : swapR l a b 0 = l := by
  refine ext_getD (swapR_len _ _ _ _) fun i hi => ?_
  rw [swapR_len] at hi
  rw [getD_swapR _ _ _ _ _ hi, if_neg (by omega), if_neg (by omega)]
theorem swapR_succ {l : List α} {a b n i : Nat} (hi : i < n) (hab : a + n ≤ b) (hb : b + n ≤ l.length) :
    ((swapR l a b i).set (a + i) ((swapR l a b i).getD (b + i) default)).set (b + i) ((swapR l a b i).getD (a + i) default) = swapR l a b (i + 1) := by
  refine ext_getD (by simp [swapR_len]) fun x hx => ?_
  simp only [List.length_set, swapR_len] at hx
  simp only [getD_set, List.length_set, swapR_len]
  rw [getD_swapR _ _ _ _ _ hx, getD_swapR _ _ _ _ (b + i) (by omega), getD_swapR _ _ _ _ (a + i) (by omega), getD_swapR _ _ _ _ _ hx]
  repeat' split
  all_goals first | rfl | (exfalso; omega) | (congr 1; omega)

/-- The row from a to b, turned so that what began at m begins at a. -/
def rotR (l : List α) (a m b : Nat) : List α :=
  mkL l.length fun x => if a ≤ x ∧ x < a + (b - m) then l.getD (x + (m - a)) default else if a + (b - m) ≤ x ∧ x < b then l.getD (x - (b - m)) default else l.getD x default
theorem rotR_len (l : List α) (a m b : Nat) : (rotR l a m b).length = l.length := mkL_len _ _
theorem getD_rotR (l : List α) (a m b i : Nat) (hi : i < l.length) : (rotR l a m b).getD i default = if a ≤ i ∧ i < a + (b - m) then l.getD (i + (m - a)) default else if a + (b - m) ≤ i ∧ i < b then l.getD (i - (b - m)) default else l.getD i default := by
  rw [rotR, getD_mkL, if_pos hi]
theorem rotR_nil (l : List α) (a m : Nat) (h : a ≤ m) : rotR l a m m = l := by
  refine ext_getD (rotR_len _ _ _ _) fun i hi => ?_
  rw [rotR_len] at hi
  rw [getD_rotR _ _ _ _ _ hi]
  repeat' split
  all_goals first | rfl | (exfalso; omega) | (congr 1; omega)
theorem rotR_up {l : List α} {a k : Nat} (hk : a ≤ k) (hl : k + 1 < l.length) :
    ((rotR l a (a + 1) (k + 1)).set k ((rotR l a (a + 1) (k + 1)).getD (k + 1) default)).set (k + 1) ((rotR l a (a + 1) (k + 1)).getD k default) = rotR l a (a + 1) (k + 2) := by
  refine ext_getD (by simp [rotR_len]) fun x hx => ?_
  simp only [List.length_set, rotR_len] at hx
  simp only [getD_set, List.length_set, rotR_len]
  rw [getD_rotR _ _ _ _ _ hx, getD_rotR _ _ _ _ (k + 1) (by omega), getD_rotR _ _ _ _ k (by omega), getD_rotR _ _ _ _ _ hx]
  repeat' split
  all_goals first | rfl | (exfalso; omega) | (congr 1; omega)
theorem rotR_down {l : List α} {m k : Nat} (hk : 0 < k) (hm : k ≤ m) (hl : m < l.length) :
    ((rotR l k m (m + 1)).set k ((rotR l k m (m + 1)).getD (k - 1) default)).set (k - 1) ((rotR l k m (m + 1)).getD k default) = rotR l (k - 1) m (m + 1) := by
  refine ext_getD (by simp [rotR_len]) fun x hx => ?_
  simp only [List.length_set, rotR_len] at hx
  simp only [getD_set, List.length_set, rotR_len]
  rw [getD_rotR _ _ _ _ _ hx, getD_rotR _ _ _ _ (k - 1) (by omega), getD_rotR _ _ _ _ k (by omega), getD_rotR _ _ _ _ _ hx]
  repeat' split
  all_goals first | rfl | (exfalso; omega) | (congr 1; omega)
/-- The turn by exchanges: the three steps. -/
theorem rot_more {l : List α} {m i j : Nat} (hj : j < i) (hi : i ≤ m) (hl : m + j ≤ l.length) : rotR (swapR l (m - i) m j) (m - (i - j)) m (m + j) = rotR l (m - i) m (m + j) := by
  refine ext_getD (by simp [rotR_len, swapR_len]) fun x hx => ?_
  rw [rotR_len, swapR_len] at hx
  rw [getD_rotR _ _ _ _ _ (by rw [swapR_len]; exact hx), getD_rotR _ _ _ _ _ hx]
  by_cases h1 : m - (i - j) ≤ x ∧ x < m - (i - j) + (m + j - m)
  · rw [if_pos h1, getD_swapR _ _ _ _ _ (by omega)]
    repeat' split
    all_goals first | rfl | (exfalso; omega) | (congr 1; omega)
  · rw [if_neg h1]
    by_cases h2 : m - (i - j) + (m + j - m) ≤ x ∧ x < m + j
    · rw [if_pos h2, getD_swapR _ _ _ _ _ (by omega)]
      repeat' split
      all_goals first | rfl | (exfalso; omega) | (congr 1; omega)
    · rw [if_neg h2, getD_swapR _ _ _ _ _ (by omega)]
      repeat' split
      all_goals first | rfl | (exfalso; omega) | (congr 1; omega)
theorem rot_less {l : List α} {m i j : Nat} (hj : i < j) (hi : i ≤ m) (hl : m + j ≤ l.length) : rotR (swapR l (m - i) (m + j - i) i) (m - i) m (m + (j - i)) = rotR l (m - i) m (m + j) := by
  refine ext_getD (by simp [rotR_len, swapR_len]) fun x hx => ?_
  rw [rotR_len, swapR_len] at hx
  rw [getD_rotR _ _ _ _ _ (by rw [swapR_len]; exact hx), getD_rotR _ _ _ _ _ hx]
  by_cases h1 : m - i ≤ x ∧ x < m - i + (m + (j - i) - m)
  · rw [if_pos h1, getD_swapR _ _ _ _ _ (by omega)]
    repeat' split
    all_goals first | rfl | (exfalso; omega) | (congr 1; omega)
  · rw [if_neg h1]
    by_cases h2 : m - i + (m + (j - i) - m) ≤ x ∧ x < m + (j - i)
    · rw [if_pos h2, getD_swapR _ _ _ _ _ (by omega)]
      repeat' split
      all_goals first | rfl | (exfalso; omega) | (congr 1; omega)
    · rw [if_neg h2, getD_swapR _ _ _ _ _ (by omega)]
      repeat' split
      all_goals first | rfl | (exfalso; omega) | (congr 1; omega)
theorem rot_same {l : List α} {m i : Nat} (hi : i ≤ m) (hl : m + i ≤ l.length) : swapR l (m - i) m i = rotR l (m - i) m (m + i) := by
  refine ext_getD (by simp [rotR_len, swapR_len]) fun x hx => ?_
  rw [swapR_len] at hx
  rw [getD_rotR _ _ _ _ _ hx, getD_swapR _ _ _ _ _ hx]
  repeat' split
  all_goals first | rfl | (exfalso; omega) | (congr 1; omega)
end
end Go.Proofs.YtfbjoamdkieamaaGreat.AM
end

section
set_option linter.unusedSimpArgs false
set_option linter.unusedVariables false
set_option maxHeartbeats 8000000
namespace Go.Proofs.YtfbjoamdkieamaaGreat.AM
open Go Go.Proofs

section
variable {E : Env} {T : Nat → AV} {H : Nat → HO} {d : Option Tmp} {ty : TypeId} {pos : String} {af : Array Edge} {g : Option (Nat × Bool)}
theorem OpL.ldm {α : Type} [Inhabited α] {f : α → AV} {t tt w id i : Nat} {X : Operand} {xs : List α} {td : TD} (hx : ev T X = .ptr id w i 0) (hH : H id = .arr tt w (xs.map f)) (hi : i < xs.length) (ht : E.td t = td)
    (hl : ∀ a, loadF td (f a) 0 [id] = some ⟨[id], [], f a⟩) : OpL E ⟨d, .load t X, ty, pos, af, g⟩ T H [id] [] (f (xs.getD i default)) := by
  subst ht
  have e : (xs.map f).getD i .junk = f (xs.getD i default) := by simp [List.getD_eq_getElem?_getD, hi]
  obtain ⟨_, _, h3⟩ := loadF_ok (hl (xs.getD i default))
  exact OpL.load_ptr hx hH rfl (by simpa using hi) (by rw [e]; exact h3)
theorem OpL.stm {α : Type} {f : α → AV} {t tt w id i : Nat} {X Y : Operand} {xs : List α} {y : α} (hx : ev T X = .ptr id w i 0) (hH : H id = .arr tt w (xs.map f)) (hy : ev T Y = f y) (hi : i < xs.length) (hys : ∀ a, (f a).solid = true) (hw : ∀ a, Nat.beq (f a).cells.length w = true)
    (ht : ((E.td t).kind.known && Nat.beq (E.td t).size w) = true) : OpL E ⟨d, .store t X Y, ty, pos, af, g⟩ T H [id] [(id, .arr tt w ((xs.set i y).map f))] .junk := by
  rw [List.map_set]
  simp only [Bool.and_eq_true] at ht
  have e1 := Nat.eq_of_beq_eq_true (hw y)
  have e2 := Nat.eq_of_beq_eq_true ht.2
  exact OpL.store hx hy hH rfl (by simpa using hi) (hys y) (TK.known_ne ht.1) (by rw [e1, e2]) (StoreV.whole rfl e1)
end
end Go.Proofs.YtfbjoamdkieamaaGreat.AM
end

section
set_option linter.unusedSimpArgs false
set_option linter.unusedVariables false
namespace Go.Proofs.YtfbjoamdkieamaaGreat.AM
open Go

section
variable {E : Env} {T : Nat → AV} {H : Nat → HO} {d : Option Tmp} {ty : TypeId} {pos : String} {af : Array Edge} {g : Option (Nat × Bool)}
theorem OpL.cvt {s t : TypeId} {X : Operand} {k k' : IntKind} {n : Int} (hx : ev T X = .int k n) (hs : (E.td s).kind = .int k) (ht : (E.td t).kind = .int k') (hw : k'.wrap n = n) :
    OpL E ⟨d, .convert s t X, ty, pos, af, g⟩ T H [] [] (.int k' n) :=
  OpL.pure (by simp) fun m a w hT => by
    have h1 : a.eval X = .int k n := by have := hT X (by simp [Op.operands]); rw [hx] at this; exact this
    have hu := Env.und_int (E := E) hs
    have hv := Env.und_int (E := E) ht
    refine ⟨.int k' n, ?_, rfl⟩
    simp only [execOp, h1, convert, Sem.run_bind, run_underlying hu, run_underlying hv, Result.andThen_ok, Conv.intToInt, Sem.run_pure, Sem.run_map, hw]
    try rfl
theorem wrap_u64 {n : Int} (h : 0 ≤ n) (h' : n ≤ 9223372036854775807) : IntKind.u64.wrap n = n := by
  simp only [IntKind.wrap, IntKind.signed, IntKind.bits]
  simp
  omega
theorem OpL.cvtU {s t : TypeId} {X : Operand} {n : Int} (hx : ev T X = .int .i64 n) (hs : (E.td s).kind = .int .i64) (ht : (E.td t).kind = .int .u64) (h : 0 ≤ n ∧ n ≤ 9223372036854775807) :
    OpL E ⟨d, .convert s t X, ty, pos, af, g⟩ T H [] [] (.int .u64 n) := OpL.cvt hx hs ht (wrap_u64 h.1 h.2)
theorem OpL.cvtI {s t : TypeId} {X : Operand} {n : Int} (hx : ev T X = .int .u64 n) (hs : (E.td s).kind = .int .u64) (ht : (E.td t).kind = .int .i64) (h : 0 ≤ n ∧ n ≤ 9223372036854775807) :
    OpL E ⟨d, .convert s t X, ty, pos, af, g⟩ T H [] [] (.int .i64 n) := OpL.cvt hx hs ht (wrap_i64 (by omega) h.2)
theorem OpL.half {t yt : TypeId} {X Y : Operand} {k : IntKind} {n : Int} (hx : ev T X = .int k n) (hy : ev T Y = .int .u64 1) :
    OpL E ⟨d, .binOp .shr t X Y yt, ty, pos, af, g⟩ T H [] [] (.int k (n / 2)) :=
  OpL.pure (by simp) fun m a w hT => by
    have h1 : a.eval X = .int k n := by have := hT X (by simp [Op.operands]); rw [hx] at this; exact this
    have h2 : a.eval Y = .int .u64 1 := by have := hT Y (by simp [Op.operands]); rw [hy] at this; exact this
    refine ⟨.int k (n / 2), ?_, rfl⟩
    have := shift_shr k .u64 n 1 (by omega) (by cases k <;> decide)
    simp [execOp, h1, h2, eqGuard, binOp, this]
end
end Go.Proofs.YtfbjoamdkieamaaGreat.AM
end

section
set_option linter.unusedSimpArgs false
set_option linter.unusedVariables false
set_option maxHeartbeats 8000000
namespace Go.Proofs.YtfbjoamdkieamaaGreat.AM
open Go Go.Proofs

/-- The comparison by Stamp, as the program hands it over. -/
abbrev cmpF : AV := .fn (.func 56) [] []
/-- A row of messages that one owns. -/
abbrev rowO (l : List Defect) : List (Nat × HO) := [(1000003, .arr 36 3 (l.map Defect.av))]

theorem swapRange_spec (c : Bool) (l : List Defect) (a b n : Nat) (hab : a + n ≤ b) (hb : b + n ≤ l.length) (hl : l.length ≤ 1000) :
    Spec env 128 [.sl c 1000003 3 0 l.length, .int .i64 a, .int .i64 b, .int .i64 n, cmpF] (ofL .free (rowO l)) (fun r H' => r = .tuple [] ∧ ∀ p ∈ rowO (swapR l a b n), H' p.1 = p.2) := by
  refine Spec.introR (nt := _) (rs := []) Tryz.func128 rfl rfl rfl rfl rfl [1000003] (fun i h => ofL_keys _ i h) fun X hX => ?_
  repeat' (first | refine GoC.seq ?_ | refine GoC.block ?_ | refine GoC.region rfl ?_ | refine GoOps.nil ?_ | refine GoOps.a rfl ?_)
  refine GoC.loop (G := Nat) (fun i => ⟨ofL .junk [(0, .sl c 1000003 3 0 l.length), (1, .int .i64 a), (2, .int .i64 b), (3, .int .i64 n), (10, .int .i64 i)], ofL .free [(1000003, .arr 36 3 ((swapR l a b i).map Defect.av))], [1000003]⟩)
    (fun i => i ≤ n) (fun i => n - i) 0 (Nat.zero_le _) (by rw [swapR_zero]; (refine AS.sub.mk' _ _ (lk []) rfl rfl ?_ ?_ <;> repeat' (first | exact True.intro | rfl | exact Wk.refl _ | exact ⟨_, rfl, Elems.mapped (fun _ => rfl) rfl⟩ | refine And.intro ?_ ?_))) ?_
  intro i hi R hR
  have hsl := swapR_len l a b i
  repeat' (first | refine GoC.seq ?_ | refine GoC.block ?_ | refine GoC.region rfl ?_ | refine GoC.draw env_mixed ?_ | refine GoC.skip ?_ | refine GoC.exit ?_ | (refine GoC.cond_d rfl ?_ ?_ <;> intro _ <;> try contradiction) | refine GoOps.nil ?_ | refine GoD.done rfl rfl (by kernel_rfl) ?_ | refine GoOps.a rfl ?_ | refine GoD.a rfl ?_ | refine GoD.p (OpL.idx_sn rfl rfl rfl rfl rfl rfl (by (first | assumption | omega))) ?_ | refine GoOps.p (OpL.add rfl rfl (by (first | assumption | omega))) ?_ | refine GoD.p (OpL.add rfl rfl (by (first | assumption | omega))) ?_ | refine GoD.p (OpL.ldm rfl rfl (by (first | assumption | omega)) rfl (fun _ => rfl)) ?_ | refine GoD.n (OpL.stm rfl rfl rfl (by (first | assumption | omega)) (fun _ => rfl) (fun _ => rfl) rfl) ?_ | refine GoD.n (OpL.stm rfl rfl rfl (by simp only [List.length_set]; omega) (fun _ => rfl) (fun _ => rfl) rfl) ?_)
  · rename_i h1
    have e1 : ((a : Int) + (i : Int)).toNat = a + i := by omega
    have e2 : ((b : Int) + (i : Int)).toNat = b + i := by omega
    refine hR (i + 1) _ (by omega) (by omega) ?_
    rw [← swapR_succ (i := i) (by omega) hab hb]
    simp only [e1, e2]
    (refine AS.sub.mk' _ _ (lk []) rfl rfl ?_ ?_ <;> repeat' (first | exact True.intro | rfl | exact Wk.refl _ | exact ⟨_, rfl, Elems.mapped (fun _ => rfl) rfl⟩ | refine And.intro ?_ ?_))
  · obtain rfl : i = n := by omega
    try simp only [thenA, inBlockA, beq_self_eq_true, cond_true]
    refine FnPost.by (.inl rfl) (AS.sub.refl _) RetOK.nil ⟨rfl, fun p hp => ?_⟩
    simp only [List.mem_cons, List.not_mem_nil, or_false] at hp
    subst hp; rfl

theorem rotate_spec (c : Bool) (l : List Defect) (a m b : Nat) (ham : a < m) (hmb : m < b) (hb : b ≤ l.length) (hl : l.length ≤ 1000) :
    Spec env 112 [.sl c 1000003 3 0 l.length, .int .i64 a, .int .i64 m, .int .i64 b, cmpF] (ofL .free (rowO l)) (fun r H' => r = .tuple [] ∧ ∀ p ∈ rowO (rotR l a m b), H' p.1 = p.2) := by
  refine Spec.introR (nt := _) (rs := []) Tryz.func112 rfl rfl rfl rfl rfl [1000003] (fun i h => ofL_keys _ i h) fun X hX => ?_
  repeat' (first | refine GoC.seq ?_ | refine GoC.block ?_ | refine GoC.region rfl ?_ | refine GoOps.nil ?_ | refine GoOps.a rfl ?_ | refine GoOps.p (OpL.sub rfl rfl (by (first | assumption | omega))) ?_)
  refine GoC.loop (G := Nat × Nat × List Defect) (fun g => ⟨ofL .junk [(0, .sl c 1000003 3 0 l.length), (2, .int .i64 m), (4, cmpF), (10, .int .i64 g.1), (11, .int .i64 g.2.1)], ofL .free [(1000003, .arr 36 3 (g.2.2.map Defect.av))], [1000003]⟩)
    (fun g => 0 < g.1 ∧ g.1 ≤ m ∧ 0 < g.2.1 ∧ m + g.2.1 ≤ l.length ∧ g.2.2.length = l.length ∧ rotR g.2.2 (m - g.1) m (m + g.2.1) = rotR l a m b) (fun g => g.1 + g.2.1) (m - a, b - m, l)
    ⟨by omega, by omega, by dsimp only; omega, by dsimp only; omega, rfl, by dsimp only; rw [show m - (m - a) = a by omega, show m + (b - m) = b by omega]⟩ (by dsimp only; (refine AS.sub.mk' _ _ (lk []) rfl rfl ?_ ?_ <;> repeat' (first | exact True.intro | rfl | exact Wk.refl _ | exact Wk.of_eq (congrArg (AV.int .i64) (by omega)) | exact ⟨_, rfl, Elems.mapped (fun _ => rfl) rfl⟩ | refine And.intro ?_ ?_))) ?_
  rintro ⟨i, j, L⟩ ⟨h1, h2, h3, h4, h5, h6⟩ R hR
  dsimp only at h1 h2 h3 h4 h5 h6 hR ⊢
  rw [← h5] at hR ⊢
  repeat' (first | refine GoC.seq ?_ | refine GoC.block ?_ | refine GoC.region rfl ?_ | refine GoC.skip ?_ | refine GoC.exit ?_ | (refine GoC.cond_d rfl ?_ ?_ <;> intro _ <;> try contradiction) | refine GoOps.nil ?_ | refine GoOps.a rfl ?_ | refine GoOps.p (OpL.add rfl rfl (by (first | assumption | omega))) ?_ | refine GoOps.p (OpL.sub rfl rfl (by (first | assumption | omega))) ?_)
  · have e1 : (m : Int) - (i : Int) = ((m - i : Nat) : Int) := by omega
    have h7 := swapR_len L (m - i) m j
    rw [e1]
    refine GoOps.m (OpL.callO (lk []) rfl rfl (swapRange_spec c L (m - i) m j (by omega) (by omega) (by omega)) rfl rfl ⟨⟨_, rfl, Elems.mapped (fun _ => rfl) rfl⟩, trivial⟩ (by rfl) (by rfl)
        (post := rowO (swapR L (m - i) m j)) (by exact ⟨⟨rfl, ⟨_, rfl, OutE.mapped fun _ => rfl⟩, .inl rfl⟩, trivial⟩) (by rfl) (by rfl)) ?_
    repeat' (first | refine GoC.region rfl ?_ | refine GoOps.nil ?_ | refine GoOps.a rfl ?_ | refine GoOps.p (OpL.sub rfl rfl (by (first | assumption | omega))) ?_)
    refine hR (i - j, j, swapR L (m - i) m j) _ ⟨by dsimp only; omega, by dsimp only; omega, h3, by dsimp only; omega, by dsimp only; omega, by dsimp only; rw [rot_more (by omega) (by omega) (by omega)]; exact h6⟩ (by dsimp only; omega) ?_
    dsimp only
    (refine AS.sub.mk' _ _ (lk []) rfl rfl ?_ ?_ <;> repeat' (first | exact True.intro | rfl | exact Wk.refl _ | exact Wk.of_eq (congrArg (AV.int .i64) (by omega)) | exact ⟨_, rfl, Elems.mapped (fun _ => rfl) rfl⟩ | refine And.intro ?_ ?_))
  · have e1 : (m : Int) - (i : Int) = ((m - i : Nat) : Int) := by omega
    have e2 : (m : Int) + (j : Int) - (i : Int) = ((m + j - i : Nat) : Int) := by omega
    have h7 := swapR_len L (m - i) (m + j - i) i
    rw [e1, e2]
    refine GoOps.m (OpL.callO (lk []) rfl rfl (swapRange_spec c L (m - i) (m + j - i) i (by omega) (by omega) (by omega)) rfl rfl ⟨⟨_, rfl, Elems.mapped (fun _ => rfl) rfl⟩, trivial⟩ (by rfl) (by rfl)
        (post := rowO (swapR L (m - i) (m + j - i) i)) (by exact ⟨⟨rfl, ⟨_, rfl, OutE.mapped fun _ => rfl⟩, .inl rfl⟩, trivial⟩) (by rfl) (by rfl)) ?_
    repeat' (first | refine GoC.region rfl ?_ | refine GoOps.nil ?_ | refine GoOps.a rfl ?_ | refine GoOps.p (OpL.sub rfl rfl (by (first | assumption | omega))) ?_)
    refine hR (i, j - i, swapR L (m - i) (m + j - i) i) _ ⟨h1, h2, by dsimp only; omega, by dsimp only; omega, by dsimp only; omega, by dsimp only; rw [rot_less (by omega) (by omega) (by omega)]; exact h6⟩ (by dsimp only; omega) ?_
    dsimp only
    (refine AS.sub.mk' _ _ (lk []) rfl rfl ?_ ?_ <;> repeat' (first | exact True.intro | rfl | exact Wk.refl _ | exact Wk.of_eq (congrArg (AV.int .i64) (by omega)) | exact ⟨_, rfl, Elems.mapped (fun _ => rfl) rfl⟩ | refine And.intro ?_ ?_))
  · obtain rfl : i = j := by omega
    have e1 : (m : Int) - (i : Int) = ((m - i : Nat) : Int) := by omega
    rw [e1]
    refine GoOps.m (OpL.callO (lk []) rfl rfl (swapRange_spec c L (m - i) m i (by omega) (by omega) (by omega)) rfl rfl ⟨⟨_, rfl, Elems.mapped (fun _ => rfl) rfl⟩, trivial⟩ (by rfl) (by rfl)
        (post := rowO (swapR L (m - i) m i)) (by exact ⟨⟨rfl, ⟨_, rfl, OutE.mapped fun _ => rfl⟩, .inl rfl⟩, trivial⟩) (by rfl) (by rfl)) ?_
    repeat' (first | refine GoOps.nil ?_)
    try simp only [thenA, inBlockA, beq_self_eq_true, cond_true]
    refine FnPost.by (.inl rfl) (AS.sub.refl _) RetOK.nil ⟨rfl, fun p hp => ?_⟩
    rw [← h6, ← rot_same (by omega) (by omega)] at hp
    simp only [List.mem_cons, List.not_mem_nil, or_false] at hp
    subst hp; rfl
end Go.Proofs.YtfbjoamdkieamaaGreat.AM
end

section
set_option linter.unusedSimpArgs false
set_option linter.unusedVariables false
set_option linter.unusedSectionVars false
namespace Go.Proofs.YtfbjoamdkieamaaGreat.AM
open Go

/-- By Stamp, then by Id. -/
def lt2 (x y : Defect) : Prop := x.stamp < y.stamp ∨ (x.stamp = y.stamp ∧ x.id < y.id)
theorem lt2.trans {x y z : Defect} (h : lt2 x y) (h' : lt2 y z) : lt2 x z := by unfold lt2 at *; omega
def SortR (l : List Defect) (a b : Nat) : Prop := ∀ x y, a ≤ x → x < y → y < b → lt2 (l.getD x default) (l.getD y default)
def CrossR (l : List Defect) (a m b : Nat) : Prop := ∀ x y, a ≤ x → x < m → m ≤ y → y < b → (l.getD x default).id < (l.getD y default).id
structure Merged (l l' : List Defect) (a b : Nat) : Prop where
  len : l'.length = l.length
  out : ∀ x, (x < a ∨ b ≤ x) → l'.getD x default = l.getD x default
  in_ : ∀ x, a ≤ x → x < b → ∃ y, a ≤ y ∧ y < b ∧ l'.getD x default = l.getD y default
  sort : SortR l' a b

theorem SortR.le {l : List Defect} {a b : Nat} (h : SortR l a b) {x y : Nat} (h1 : a ≤ x) (h2 : x ≤ y) (h3 : y < b) : x = y ∨ lt2 (l.getD x default) (l.getD y default) := by
  rcases Nat.lt_or_ge x y with h4 | h4
  · exact .inr (h x y h1 h4 h3)
  · exact .inl (by omega)
theorem SortR.sub {l : List Defect} {a b a' b' : Nat} (h : SortR l a b) (h1 : a ≤ a') (h2 : b' ≤ b) : SortR l a' b' := fun x y h3 h4 h5 => h x y (by omega) h4 (by omega)
theorem SortR.congr {l l' : List Defect} {a b : Nat} (h : SortR l a b) (he : ∀ x, a ≤ x → x < b → l'.getD x default = l.getD x default) : SortR l' a b := fun x y h3 h4 h5 => by
  rw [he x h3 (by omega), he y (by omega) h5]; exact h x y h3 h4 h5
/-- A row whose places are those of another, one by one. -/
theorem SortR.shift {l l' : List Defect} {a b a' b' : Nat} (h : SortR l a b) (hb : b' - a' ≤ b - a) (he : ∀ x, a' ≤ x → x < b' → l'.getD x default = l.getD (x - a' + a) default) : SortR l' a' b' := fun x y h3 h4 h5 => by
  rw [he x h3 (by omega), he y (by omega) h5]; exact h _ _ (by omega) (by omega) (by omega)

/-- One message is put among those behind it. -/
theorem merge_one {l : List Defect} {a i b : Nat} (hi : a + 1 ≤ i) (hib : i ≤ b) (hb : b ≤ l.length) (hs : SortR l (a + 1) b) (hc : CrossR l a (a + 1) b)
    (h1 : ∀ y, a + 1 ≤ y → y < i → (l.getD y default).stamp < (l.getD a default).stamp) (h2 : ∀ y, i ≤ y → y < b → (l.getD a default).stamp ≤ (l.getD y default).stamp) : Merged l (rotR l a (a + 1) i) a b := by
  have hg : ∀ x, x < l.length → (rotR l a (a + 1) i).getD x default = if a ≤ x ∧ x < i - 1 then l.getD (x + 1) default else if x = i - 1 then l.getD a default else l.getD x default := by
    intro x hx
    rw [getD_rotR _ _ _ _ _ hx]
    repeat' split
    all_goals first | rfl | (exfalso; omega) | (congr 1; omega)
  refine ⟨rotR_len _ _ _ _, fun x hx => ?_, fun x h3 h4 => ?_, fun x y h3 h4 h5 => ?_⟩
  · by_cases hxl : x < l.length
    · rw [hg x hxl, if_neg (by omega), if_neg (by omega)]
    · simp only [List.getD_eq_getElem?_getD]
      rw [List.getElem?_eq_none (by rw [rotR_len]; omega), List.getElem?_eq_none (by omega)]
  · rw [hg x (by omega)]
    split
    · exact ⟨x + 1, by omega, by omega, rfl⟩
    · split
      · exact ⟨a, by omega, by omega, rfl⟩
      · exact ⟨x, h3, h4, rfl⟩
  · rw [hg x (by omega), hg y (by omega)]
    by_cases c1 : a ≤ x ∧ x < i - 1
    · rw [if_pos c1]
      by_cases c2 : a ≤ y ∧ y < i - 1
      · rw [if_pos c2]; exact hs _ _ (by omega) (by omega) (by omega)
      · rw [if_neg c2]
        by_cases c3 : y = i - 1
        · rw [if_pos c3]; exact .inl (h1 _ (by omega) (by omega))
        · rw [if_neg c3]; exact hs _ _ (by omega) (by omega) (by omega)
    · rw [if_neg c1]
      have c2 : ¬ (a ≤ y ∧ y < i - 1) := by omega
      rw [if_neg c2]
      have c3 : ¬ y = i - 1 := by omega
      rw [if_neg c3]
      by_cases c4 : x = i - 1
      · rw [if_pos c4]
        have h6 := h2 y (by omega) h5
        have h7 := hc a y (by omega) (by omega) (by omega) h5
        unfold lt2; omega
      · rw [if_neg c4]; exact hs _ _ (by omega) (by omega) (by omega)
/-- One message is put among those ahead of it. -/
theorem merge_last {l : List Defect} {a i m : Nat} (hi : a ≤ i) (him : i ≤ m) (hb : m < l.length) (hs : SortR l a m) (hc : CrossR l a m (m + 1))
    (h1 : ∀ x, a ≤ x → x < i → (l.getD x default).stamp ≤ (l.getD m default).stamp) (h2 : ∀ x, i ≤ x → x < m → (l.getD m default).stamp < (l.getD x default).stamp) : Merged l (rotR l i m (m + 1)) a (m + 1) := by
  have hg : ∀ x, x < l.length → (rotR l i m (m + 1)).getD x default = if x = i then l.getD m default else if i < x ∧ x ≤ m then l.getD (x - 1) default else l.getD x default := by
    intro x hx
    rw [getD_rotR _ _ _ _ _ hx]
    repeat' split
    all_goals first | rfl | (exfalso; omega) | (congr 1; omega)
  refine ⟨rotR_len _ _ _ _, fun x hx => ?_, fun x h3 h4 => ?_, fun x y h3 h4 h5 => ?_⟩
  · by_cases hxl : x < l.length
    · rw [hg x hxl, if_neg (by omega), if_neg (by omega)]
    · simp only [List.getD_eq_getElem?_getD]
      rw [List.getElem?_eq_none (by rw [rotR_len]; omega), List.getElem?_eq_none (by omega)]
  · rw [hg x (by omega)]
    split
    · exact ⟨m, by omega, by omega, rfl⟩
    · split
      · exact ⟨x - 1, by omega, by omega, rfl⟩
      · exact ⟨x, h3, h4, rfl⟩
  · rw [hg x (by omega), hg y (by omega)]
    by_cases c1 : x = i
    · rw [if_pos c1, if_neg (by omega), if_pos ⟨by omega, by omega⟩]
      exact .inl (h2 _ (by omega) (by omega))
    · rw [if_neg c1]
      by_cases c2 : i < x ∧ x ≤ m
      · rw [if_pos c2, if_neg (by omega), if_pos ⟨by omega, by omega⟩]
        exact hs _ _ (by omega) (by omega) (by omega)
      · rw [if_neg c2]
        by_cases c3 : y = i
        · rw [if_pos c3]
          have h6 := h1 x h3 (by omega)
          have h7 := hc x m h3 (by omega) (by omega) (by omega)
          unfold lt2; omega
        · rw [if_neg c3]
          by_cases c4 : i < y ∧ y ≤ m
          · rw [if_pos c4]; exact hs _ _ (by omega) (by omega) (by omega)
          · rw [if_neg c4]; exact hs _ _ (by omega) (by omega) (by omega)

/-- The row is parted: what lies where behind the turn. -/
theorem rot_at {l : List Defect} {s m e : Nat} (hs : s ≤ m) (he : m ≤ e) (hl : e ≤ l.length) (x : Nat) :
    (rotR l s m e).getD x default = if s ≤ x ∧ x < s + (e - m) then l.getD (x + (m - s)) default else if s + (e - m) ≤ x ∧ x < e then l.getD (x - (e - m)) default else l.getD x default := by
  by_cases hx : x < l.length
  · exact getD_rotR _ _ _ _ _ hx
  · rw [if_neg (by omega), if_neg (by omega)]
    simp only [List.getD_eq_getElem?_getD]
    rw [List.getElem?_eq_none (by rw [rotR_len]; omega), List.getElem?_eq_none (by omega)]

structure Parted (l l1 : List Defect) (a s mid e b : Nat) : Prop where
  len : l1.length = l.length
  out : ∀ x, (x < a ∨ b ≤ x) → l1.getD x default = l.getD x default
  in1 : ∀ x, a ≤ x → x < b → ∃ y, a ≤ y ∧ y < b ∧ l1.getD x default = l.getD y default
  s1 : SortR l1 a s
  s2 : SortR l1 s mid
  s3 : SortR l1 mid e
  s4 : SortR l1 e b
  c1 : CrossR l1 a s mid
  c2 : CrossR l1 mid e b
  halves : ∀ x y, a ≤ x → x < mid → mid ≤ y → y < b → lt2 (l1.getD x default) (l1.getD y default)

theorem parted {l : List Defect} {a s m mid e b : Nat} (h1 : a ≤ s) (h2 : s ≤ m) (h3 : m ≤ e) (h4 : e ≤ b) (hb : b ≤ l.length) (hse : s + e = mid + m) (hs1 : SortR l a m) (hs2 : SortR l m b) (hc : CrossR l a m b)
    (hlo : a < s → e < b → (l.getD (s - 1) default).stamp ≤ (l.getD e default).stamp) (hhi : s < m → m < e → (l.getD (e - 1) default).stamp < (l.getD s default).stamp) : Parted l (rotR l s m e) a s mid e b := by
  have hg := rot_at (l := l) h2 h3 (by omega : e ≤ l.length)
  have hmid : s + (e - m) = mid := by omega
  have ga : ∀ x, x < s → (rotR l s m e).getD x default = l.getD x default := fun x hx => by rw [hg, if_neg (by omega), if_neg (by omega)]
  have gb : ∀ x, s ≤ x → x < mid → (rotR l s m e).getD x default = l.getD (x - s + m) default := fun x hx hx' => by rw [hg, if_pos (by omega)]; congr 1; omega
  have gc : ∀ x, mid ≤ x → x < e → (rotR l s m e).getD x default = l.getD (x - mid + s) default := fun x hx hx' => by rw [hg, if_neg (by omega), if_pos (by omega)]; congr 1; omega
  have gd' : ∀ x, e ≤ x → (rotR l s m e).getD x default = l.getD x default := fun x hx => by rw [hg, if_neg (by omega), if_neg (by omega)]
  refine ⟨rotR_len _ _ _ _, fun x hx => ?_, fun x h5 h6 => ?_, ?_, ?_, ?_, ?_, ?_, ?_, ?_⟩
  · rcases hx with hx | hx
    · exact ga x (by omega)
    · exact gd' x (by omega)
  · by_cases c1 : x < s
    · exact ⟨x, h5, h6, ga x c1⟩
    · by_cases c2 : x < mid
      · exact ⟨_, by omega, by omega, gb x (by omega) c2⟩
      · by_cases c3 : x < e
        · exact ⟨_, by omega, by omega, gc x (by omega) c3⟩
        · exact ⟨x, h5, h6, gd' x (by omega)⟩
  · exact (hs1.sub (Nat.le_refl _) h2).congr fun x _ hx => ga x hx
  · exact (hs2.sub (Nat.le_refl _) h4).shift (by omega) fun x hx hx' => gb x hx hx'
  · exact (hs1.sub h1 (Nat.le_refl _)).shift (by omega) fun x hx hx' => gc x hx hx'
  · exact (hs2.sub h3 (Nat.le_refl _)).congr fun x hx _ => gd' x hx
  · intro x y h5 h6 h7 h8
    rw [ga x h6, gb y h7 h8]
    exact hc _ _ h5 (by omega) (by omega) (by omega)
  · intro x y h5 h6 h7 h8
    rw [gc x h5 h6, gd' y h7]
    exact hc _ _ (by omega) (by omega) (by omega) h8
  · intro x y h5 h6 h7 h8
    by_cases c1 : x < s
    · rw [ga x c1]
      by_cases c2 : y < e
      · rw [gc y h7 c2]; exact hs1 _ _ h5 (by omega) (by omega)
      · rw [gd' y (by omega)]
        have k1 := hlo (by omega) (by omega)
        have k2 := hc (s - 1) e (by omega) (by omega) (by omega) (by omega)
        have k3 : lt2 (l.getD (s - 1) default) (l.getD e default) := by unfold lt2; omega
        rcases hs1.le h5 (by omega : x ≤ s - 1) (by omega) with k4 | k4
        · rw [k4]
          rcases hs2.le (by omega : m ≤ e) (by omega : e ≤ y) h8 with k5 | k5
          · rw [← k5]; exact k3
          · exact k3.trans k5
        · rcases hs2.le (by omega : m ≤ e) (by omega : e ≤ y) h8 with k5 | k5
          · rw [← k5]; exact k4.trans k3
          · exact k4.trans (k3.trans k5)
    · rw [gb x (by omega) h6]
      by_cases c2 : y < e
      · rw [gc y h7 c2]
        have k1 := hhi (by omega) (by omega)
        have k3 : lt2 (l.getD (e - 1) default) (l.getD s default) := .inl k1
        rcases hs2.le (by omega : m ≤ x - s + m) (by omega : x - s + m ≤ e - 1) (by omega) with k4 | k4
        · rw [k4]
          rcases hs1.le h1 (by omega : s ≤ y - mid + s) (by omega) with k5 | k5
          · rw [← k5]; exact k3
          · exact k3.trans k5
        · rcases hs1.le h1 (by omega : s ≤ y - mid + s) (by omega) with k5 | k5
          · rw [← k5]; exact k4.trans k3
          · exact k4.trans (k3.trans k5)
      · rw [gd' y (by omega)]
        exact hs2 _ _ (by omega) (by omega) h8

theorem Merged.refl {l : List Defect} {a b : Nat} (h : SortR l a b) : Merged l l a b := ⟨rfl, fun _ _ => rfl, fun x h1 h2 => ⟨x, h1, h2, rfl⟩, h⟩
/-- Both halves merged: the whole is. -/
theorem Parted.merged {l l1 l2 l3 : List Defect} {a s mid e b : Nat} (h : Parted l l1 a s mid e b) (hm : a ≤ mid) (hmb : mid ≤ b) (h1 : Merged l1 l2 a mid) (h2 : Merged l2 l3 mid b) : Merged l l3 a b := by
  have key : ∀ x, a ≤ x → x < b → ∃ y, a ≤ y ∧ y < b ∧ l3.getD x default = l1.getD y default ∧ ((x < mid ↔ y < mid)) := by
    intro x h5 h6
    by_cases c : x < mid
    · obtain ⟨y, k1, k2, k3⟩ := h1.in_ x h5 c
      exact ⟨y, k1, by omega, by rw [h2.out x (.inl c), k3], by omega⟩
    · obtain ⟨y, k1, k2, k3⟩ := h2.in_ x (by omega) h6
      exact ⟨y, by omega, k2, by rw [k3, h1.out y (.inr k1)], by omega⟩
  refine ⟨by rw [h2.len, h1.len, h.len], fun x hx => ?_, fun x h5 h6 => ?_, fun x y h5 h6 h7 => ?_⟩
  · rw [h2.out x (by omega), h1.out x (by omega), h.out x hx]
  · obtain ⟨y, k1, k2, k3, _⟩ := key x h5 h6
    obtain ⟨z, k4, k5, k6⟩ := h.in1 y k1 k2
    exact ⟨z, k4, k5, by rw [k3, k6]⟩
  · by_cases c1 : y < mid
    · rw [h2.out x (.inl (by omega)), h2.out y (.inl c1)]
      exact h1.sort x y h5 h6 c1
    · by_cases c2 : x < mid
      · obtain ⟨x', k1, k2, k3, k4⟩ := key x h5 (by omega)
        obtain ⟨y', k5, k6, k7, k8⟩ := key y (by omega) h7
        rw [k3, k7]
        exact h.halves x' y' k1 (k4.1 c2) (by omega) k6
      · exact h2.sort x y (by omega) h6 h7
theorem Parted.next {l l1 l2 : List Defect} {a s mid e b : Nat} (h : Parted l l1 a s mid e b) (h1 : Merged l1 l2 a mid) : SortR l2 mid e ∧ (SortR l2 e b ∨ e < mid) ∧ (CrossR l2 mid e b ∨ e < mid) := by
  by_cases c : e < mid
  · exact ⟨fun x y _ _ _ => by omega, .inr c, .inr c⟩
  · refine ⟨h.s3.congr fun x hx _ => h1.out x (.inr hx), .inl (h.s4.congr fun x hx _ => h1.out x (.inr (by omega))), .inl fun x y h5 h6 h7 h8 => ?_⟩
    rw [h1.out x (.inr h5), h1.out y (.inr (by omega))]
    exact h.c2 x y h5 h6 h7 h8
end Go.Proofs.YtfbjoamdkieamaaGreat.AM
end

section
set_option linter.unusedSimpArgs false
set_option linter.unusedVariables false
set_option maxHeartbeats 8000000
namespace Go.Proofs.YtfbjoamdkieamaaGreat.AM
open Go Go.Proofs

/-- A statement, and what follows it: all ways through it lead to one family of states. -/
theorem GoC.join {E : Env} {X : Ctx} {nt : Nat} {c c' : Code} {Q : Exit → AS → Prop} {s : AS} {G : Type} (st : G → AS) (pre : G → Prop)
    (h : ∀ R : AS → Prop, (∀ g s', pre g → s'.sub (st g) → R s') → GoC E X nt c (thenA R Q) s) (h' : ∀ g, pre g → GoC E X nt c' Q (st g)) : GoC E X nt (.seq c c') Q s :=
  GoC.seq ((h (fun s' => ∃ g, pre g ∧ s'.sub (st g)) fun g s' h1 h2 => ⟨g, h1, h2⟩).mono fun e s' he => by
    cases e <;> first | exact he | (obtain ⟨g, h1, h2⟩ := he; exact GoC.sub h2 (h' g h1)))

def StB (l : List Defect) : Prop := ∀ x, x < l.length → 0 ≤ (l.getD x default).stamp ∧ (l.getD x default).stamp ≤ 9999
theorem cmpSt_spec (x y : Defect) (hx : 0 ≤ x.stamp ∧ x.stamp ≤ 9999) (hy : 0 ≤ y.stamp ∧ y.stamp ≤ 9999) : PSpec env 56 [x.av, y.av] (.int .i64 (x.stamp - y.stamp)) := by
  refine Spec.introR (nt := _) (rs := [_]) Tryz.func56 rfl rfl rfl rfl rfl [] (fun _ h => absurd rfl h) fun X hX => ?_
  repeat' (first | refine GoC.seq ?_ | refine GoC.region rfl ?_ | refine GoC.ret ?_ | refine GoOps.nil ?_ | refine GoOps.a rfl ?_ | refine GoOps.p (OpL.sub rfl rfl (by (first | assumption | omega))) ?_ | refine GoOps.m (OpL.boxw (by rfl) rfl rfl rfl rfl) ?_)
  ((try dsimp only [thenA, inBlockA]); refine FnPost.many (.inr rfl) (RetOK.hv rfl RetOK.nil) ?_; (try dsimp only [tup]))
theorem SortR.st {l : List Defect} {a b x y : Nat} (h : SortR l a b) (h1 : a ≤ x) (h2 : x ≤ y) (h3 : y < b) : (l.getD x default).stamp ≤ (l.getD y default).stamp := by
  rcases h.le h1 h2 h3 with h4 | h4
  · rw [h4]; exact Int.le_refl _
  · unfold lt2 at h4; omega
theorem Merged.stB {l l' : List Defect} {a b : Nat} (h : Merged l l' a b) (hb : b ≤ l.length) (hv : StB l) : StB l' := by
  intro x hx
  rw [h.len] at hx
  by_cases c : a ≤ x ∧ x < b
  · obtain ⟨y, h1, h2, h3⟩ := h.in_ x c.1 c.2
    rw [h3]; exact hv y (by omega)
  · rw [h.out x (by omega)]; exact hv x hx

theorem rotR_one {α : Type} [Inhabited α] (l : List α) (m b : Nat) : rotR l m m b = l := by
  refine ext_getD (rotR_len _ _ _ _) fun i hi => ?_
  rw [rotR_len] at hi
  rw [getD_rotR _ _ _ _ _ hi]
  repeat' split
  all_goals first | rfl | (exfalso; omega) | (congr 1; omega)
theorem insLeft_spec (c : Bool) (l : List Defect) (a b : Nat) (hab : a + 1 < b) (hb : b ≤ l.length) (hl : l.length ≤ 1000) (hv : StB l) (hs2 : SortR l (a + 1) b) (hc : CrossR l a (a + 1) b) :
    Spec env 91 [.sl c 1000003 3 0 l.length, .int .i64 a, .int .i64 ((a + 1 : Nat) : Int), .int .i64 b, cmpF] (ofL .free (rowO l)) (fun r H' => ∃ l', Merged l l' a b ∧ r = .tuple [] ∧ ∀ p ∈ rowO l', H' p.1 = p.2) := by
  refine Spec.introR (nt := _) (rs := []) Tryz.func91 rfl rfl rfl rfl rfl [1000003] (fun i h => ofL_keys _ i h) fun X hX => ?_
  repeat' (first | refine GoC.seq ?_ | refine GoC.block ?_ | refine GoC.region rfl ?_ | refine GoC.skip ?_ | (refine GoC.cond_d rfl ?_ ?_ <;> intro _ <;> try contradiction) | refine GoOps.nil ?_ | refine GoOps.a rfl ?_ | refine GoOps.p (OpL.add rfl rfl (by (first | assumption | omega))) ?_ | refine GoOps.p (OpL.sub rfl rfl (by (first | assumption | omega))) ?_ | refine GoOps.p (OpL.cvtU rfl rfl rfl (by (first | assumption | omega))) ?_ | refine GoOps.p (OpL.cvtI rfl rfl rfl (by (first | assumption | omega))) ?_ | refine GoOps.p (OpL.half rfl rfl) ?_)
  · refine GoC.loop (G := Nat × Nat) (fun g => ⟨ofL .junk [(0, .sl c 1000003 3 0 l.length), (1, .int .i64 a), (2, .int .i64 ((a + 1 : Nat) : Int)), (3, .int .i64 b), (4, cmpF), (10, .int .i64 g.1), (11, .int .i64 g.2)], ofL .free (rowO l), [1000003]⟩)
      (fun g => a + 1 ≤ g.1 ∧ g.1 ≤ g.2 ∧ g.2 ≤ b ∧ (∀ y, a + 1 ≤ y → y < g.1 → (l.getD y default).stamp < (l.getD a default).stamp) ∧ ∀ y, g.2 ≤ y → y < b → (l.getD a default).stamp ≤ (l.getD y default).stamp) (fun g => g.2 - g.1) (a + 1, b)
      ⟨Nat.le_refl _, by dsimp only; omega, Nat.le_refl _, fun y h1 h2 => absurd h2 (by dsimp only; omega), fun y h1 h2 => absurd h2 (by dsimp only at h1; omega)⟩ (by dsimp only; (refine AS.sub.mk' _ _ (lk []) rfl rfl ?_ ?_ <;> repeat' (first | exact True.intro | rfl | exact Wk.refl _ | exact ⟨_, rfl, Elems.mapped (fun _ => rfl) rfl⟩ | refine And.intro ?_ ?_))) ?_
    rintro ⟨i, j⟩ ⟨h1, h2, h3, h4, h5⟩ R hR
    dsimp only at h1 h2 h3 h4 h5 hR ⊢
    repeat' (first | refine GoC.seq ?_ | refine GoC.block ?_ | refine GoC.region rfl ?_ | refine GoC.draw env_mixed ?_ | refine GoC.skip ?_ | refine GoC.exit ?_ | (refine GoC.cond_d rfl ?_ ?_ <;> intro _ <;> try contradiction) | refine GoOps.nil ?_ | refine GoD.done rfl rfl (by kernel_rfl) ?_ | refine GoOps.a rfl ?_ | refine GoD.a rfl ?_ | refine GoD.p (OpL.idx_s rfl rfl (by with_reducible exact rfl) rfl rfl rfl rfl rfl (by (first | assumption | omega))) ?_ | refine GoD.p (OpL.idx_sn rfl rfl rfl rfl rfl rfl (by (first | assumption | omega))) ?_ | refine GoOps.p (OpL.add rfl rfl (by (first | assumption | omega))) ?_ | refine GoD.p (OpL.ldm rfl rfl (by (first | assumption | omega)) rfl (fun _ => rfl)) ?_ | refine GoD.p (OpL.call rfl rfl (cmpSt_spec _ _ (hv _ (by omega)) (hv _ (by omega))) rfl rfl) ?_ | refine GoOps.p (OpL.cvtU rfl rfl rfl (by (first | assumption | omega))) ?_ | refine GoOps.p (OpL.cvtI rfl rfl rfl (by (first | assumption | omega))) ?_ | refine GoOps.p (OpL.half rfl rfl) ?_)
    · rename_i k1 k2 k3
      have e : (((i : Int) + (j : Int)) / 2).toNat = (i + j) / 2 := by omega
      rw [e, Nat.zero_add] at k3
      refine hR ((i + j) / 2 + 1, j) _ ⟨by dsimp only; omega, by dsimp only; omega, h3, fun y h6 h7 => ?_, h5⟩ (by dsimp only; omega) (by dsimp only; (refine AS.sub.mk' _ _ (lk []) rfl rfl ?_ ?_ <;> repeat' (first | exact True.intro | rfl | exact Wk.refl _ | exact ⟨_, rfl, Elems.mapped (fun _ => rfl) rfl⟩ | refine And.intro ?_ ?_)))
      dsimp only at h7
      have := hs2.st h6 (by omega : y ≤ (i + j) / 2) (by omega)
      omega
    · rename_i k1 k2 k3
      have e : (((i : Int) + (j : Int)) / 2).toNat = (i + j) / 2 := by omega
      rw [e, Nat.zero_add] at k3
      refine hR (i, (i + j) / 2) _ ⟨h1, by dsimp only; omega, by dsimp only; omega, h4, fun y h6 h7 => ?_⟩ (by dsimp only; omega) (by dsimp only; (refine AS.sub.mk' _ _ (lk []) rfl rfl ?_ ?_ <;> repeat' (first | exact True.intro | rfl | exact Wk.refl _ | exact ⟨_, rfl, Elems.mapped (fun _ => rfl) rfl⟩ | refine And.intro ?_ ?_)))
      have := hs2.st (x := (i + j) / 2) (y := y) (by omega) h6 h7
      omega
    · obtain rfl : i = j := by omega
      refine GoC.loop (G := Nat) (fun k => ⟨ofL .junk [(0, .sl c 1000003 3 0 l.length), (10, .int .i64 i), (13, .int .i64 k)], ofL .free (rowO (rotR l a (a + 1) (k + 1))), [1000003]⟩)
        (fun k => a ≤ k ∧ k + 1 ≤ i) (fun k => i - k) a ⟨Nat.le_refl _, h1⟩ (by rw [rotR_nil _ _ _ (by omega)]; (refine AS.sub.mk' _ _ (lk []) rfl rfl ?_ ?_ <;> repeat' (first | exact True.intro | rfl | exact Wk.refl _ | exact ⟨_, rfl, Elems.mapped (fun _ => rfl) rfl⟩ | refine And.intro ?_ ?_))) ?_
      rintro k ⟨h6, h7⟩ R2 hR2
      have hln := rotR_len l a (a + 1) (k + 1)
      repeat' (first | refine GoC.seq ?_ | refine GoC.block ?_ | refine GoC.region rfl ?_ | refine GoC.draw env_mixed ?_ | refine GoC.skip ?_ | refine GoC.exit ?_ | refine GoC.ret ?_ | (refine GoC.cond_d rfl ?_ ?_ <;> intro _ <;> try contradiction) | refine GoOps.nil ?_ | refine GoD.done rfl rfl (by kernel_rfl) ?_ | refine GoOps.a rfl ?_ | refine GoD.a rfl ?_ | refine GoD.p (OpL.idx_s rfl rfl (by with_reducible exact rfl) rfl rfl rfl rfl rfl (by (first | assumption | omega))) ?_ | refine GoD.p (OpL.idx_sn rfl rfl rfl rfl rfl rfl (by (first | assumption | omega))) ?_ | refine GoOps.p (OpL.add rfl rfl (by (first | assumption | omega))) ?_ | refine GoD.p (OpL.add rfl rfl (by (first | assumption | omega))) ?_ | refine GoOps.p (OpL.sub rfl rfl (by (first | assumption | omega))) ?_ | refine GoD.p (OpL.ldm rfl rfl (by (first | assumption | omega)) rfl (fun _ => rfl)) ?_ | refine GoD.n (OpL.stm rfl rfl rfl (by (first | assumption | omega)) (fun _ => rfl) (fun _ => rfl) rfl) ?_ | refine GoD.n (OpL.stm rfl rfl rfl (by simp only [List.length_set]; omega) (fun _ => rfl) (fun _ => rfl) rfl) ?_)
      · refine hR2 (k + 1) _ ⟨by omega, by omega⟩ (by omega) ?_
        rw [← rotR_up (by omega) (by omega)]
        try simp only [Nat.zero_add]
        (refine AS.sub.mk' _ _ (lk []) rfl rfl ?_ ?_ <;> repeat' (first | exact True.intro | rfl | exact Wk.refl _ | exact ⟨_, rfl, Elems.mapped (fun _ => rfl) rfl⟩ | refine And.intro ?_ ?_))
      · obtain rfl : k + 1 = i := by omega
        try simp only [thenA, inBlockA, beq_self_eq_true, cond_true]
        refine FnPost.by (.inr rfl) (AS.sub.refl _) RetOK.nil ⟨_, merge_one h1 h3 hb hs2 hc h4 h5, rfl, fun p hp => ?_⟩
        simp only [List.mem_cons, List.not_mem_nil, or_false] at hp
        subst hp; rfl
  all_goals (exfalso; omega)

theorem insRight_spec (c : Bool) (l : List Defect) (a m : Nat) (ham : a + 1 < m) (hb : m + 1 ≤ l.length) (hl : l.length ≤ 1000) (hv : StB l) (hs1 : SortR l a m) (hc : CrossR l a m (m + 1)) :
    Spec env 91 [.sl c 1000003 3 0 l.length, .int .i64 a, .int .i64 m, .int .i64 ((m + 1 : Nat) : Int), cmpF] (ofL .free (rowO l)) (fun r H' => ∃ l', Merged l l' a (m + 1) ∧ r = .tuple [] ∧ ∀ p ∈ rowO l', H' p.1 = p.2) := by
  refine Spec.introR (nt := _) (rs := []) Tryz.func91 rfl rfl rfl rfl rfl [1000003] (fun i h => ofL_keys _ i h) fun X hX => ?_
  repeat' (first | refine GoC.seq ?_ | refine GoC.block ?_ | refine GoC.region rfl ?_ | refine GoC.skip ?_ | (refine GoC.cond_d rfl ?_ ?_ <;> intro _ <;> try contradiction) | refine GoOps.nil ?_ | refine GoOps.a rfl ?_ | refine GoOps.p (OpL.add rfl rfl (by (first | assumption | omega))) ?_ | refine GoOps.p (OpL.sub rfl rfl (by (first | assumption | omega))) ?_ | refine GoOps.p (OpL.cvtU rfl rfl rfl (by (first | assumption | omega))) ?_ | refine GoOps.p (OpL.cvtI rfl rfl rfl (by (first | assumption | omega))) ?_ | refine GoOps.p (OpL.half rfl rfl) ?_)
  · exfalso; omega
  · refine GoC.loop (G := Nat × Nat) (fun g => ⟨ofL .junk [(0, .sl c 1000003 3 0 l.length), (1, .int .i64 a), (2, .int .i64 m), (3, .int .i64 ((m + 1 : Nat) : Int)), (4, cmpF), (14, .int .i64 g.1), (15, .int .i64 g.2)], ofL .free (rowO l), [1000003]⟩)
      (fun g => a ≤ g.1 ∧ g.1 ≤ g.2 ∧ g.2 ≤ m ∧ (∀ x, a ≤ x → x < g.1 → (l.getD x default).stamp ≤ (l.getD m default).stamp) ∧ ∀ x, g.2 ≤ x → x < m → (l.getD m default).stamp < (l.getD x default).stamp) (fun g => g.2 - g.1) (a, m)
      ⟨Nat.le_refl _, by dsimp only; omega, Nat.le_refl _, fun y h1 h2 => absurd h2 (by dsimp only; omega), fun y h1 h2 => absurd h2 (by dsimp only at h1; omega)⟩ (by dsimp only; (refine AS.sub.mk' _ _ (lk []) rfl rfl ?_ ?_ <;> repeat' (first | exact True.intro | rfl | exact Wk.refl _ | exact ⟨_, rfl, Elems.mapped (fun _ => rfl) rfl⟩ | refine And.intro ?_ ?_))) ?_
    rintro ⟨i, j⟩ ⟨h1, h2, h3, h4, h5⟩ R hR
    dsimp only at h1 h2 h3 h4 h5 hR ⊢
    repeat' (first | refine GoC.seq ?_ | refine GoC.block ?_ | refine GoC.region rfl ?_ | refine GoC.draw env_mixed ?_ | refine GoC.skip ?_ | refine GoC.exit ?_ | (refine GoC.cond_d rfl ?_ ?_ <;> intro _ <;> try contradiction) | (refine GoC.cond_n rfl ?_ ?_ <;> intro _ <;> try contradiction) | refine GoOps.nil ?_ | refine GoD.done rfl rfl (by kernel_rfl) ?_ | refine GoOps.a rfl ?_ | refine GoD.a rfl ?_ | refine GoD.p (OpL.idx_s rfl rfl (by with_reducible exact rfl) rfl rfl rfl rfl rfl (by (first | assumption | omega))) ?_ | refine GoD.p (OpL.idx_sn rfl rfl rfl rfl rfl rfl (by (first | assumption | omega))) ?_ | refine GoOps.p (OpL.add rfl rfl (by (first | assumption | omega))) ?_ | refine GoD.p (OpL.ldm rfl rfl (by (first | assumption | omega)) rfl (fun _ => rfl)) ?_ | refine GoD.p (OpL.call rfl rfl (cmpSt_spec _ _ (hv _ (by omega)) (hv _ (by omega))) rfl rfl) ?_ | refine GoOps.p (OpL.cvtU rfl rfl rfl (by (first | assumption | omega))) ?_ | refine GoOps.p (OpL.cvtI rfl rfl rfl (by (first | assumption | omega))) ?_ | refine GoOps.p (OpL.half rfl rfl) ?_)
    · rename_i k1 k2 k3
      have e : (((i : Int) + (j : Int)) / 2).toNat = (i + j) / 2 := by omega
      rw [e, Nat.zero_add] at k3
      refine hR ((i + j) / 2 + 1, j) _ ⟨by dsimp only; omega, by dsimp only; omega, h3, fun y h6 h7 => ?_, h5⟩ (by dsimp only; omega) (by dsimp only; (refine AS.sub.mk' _ _ (lk []) rfl rfl ?_ ?_ <;> repeat' (first | exact True.intro | rfl | exact Wk.refl _ | exact ⟨_, rfl, Elems.mapped (fun _ => rfl) rfl⟩ | refine And.intro ?_ ?_)))
      dsimp only at h7
      have := hs1.st h6 (by omega : y ≤ (i + j) / 2) (by omega)
      omega
    · rename_i k1 k2 k3
      have e : (((i : Int) + (j : Int)) / 2).toNat = (i + j) / 2 := by omega
      rw [e, Nat.zero_add] at k3
      refine hR (i, (i + j) / 2) _ ⟨h1, by dsimp only; omega, by dsimp only; omega, h4, fun y h6 h7 => ?_⟩ (by dsimp only; omega) (by dsimp only; (refine AS.sub.mk' _ _ (lk []) rfl rfl ?_ ?_ <;> repeat' (first | exact True.intro | rfl | exact Wk.refl _ | exact ⟨_, rfl, Elems.mapped (fun _ => rfl) rfl⟩ | refine And.intro ?_ ?_)))
      have := hs1.st (x := (i + j) / 2) (y := y) (by omega) h6 h7
      omega
    · obtain rfl : i = j := by omega
      refine GoC.loop (G := Nat) (fun k => ⟨ofL .junk [(0, .sl c 1000003 3 0 l.length), (14, .int .i64 i), (17, .int .i64 k)], ofL .free (rowO (rotR l k m (m + 1))), [1000003]⟩)
        (fun k => i ≤ k ∧ k ≤ m) (fun k => k - i) m ⟨h3, Nat.le_refl _⟩ (by rw [rotR_one]; (refine AS.sub.mk' _ _ (lk []) rfl rfl ?_ ?_ <;> repeat' (first | exact True.intro | rfl | exact Wk.refl _ | exact ⟨_, rfl, Elems.mapped (fun _ => rfl) rfl⟩ | refine And.intro ?_ ?_))) ?_
      rintro k ⟨h6, h7⟩ R2 hR2
      have hln := rotR_len l k m (m + 1)
      repeat' (first | refine GoC.seq ?_ | refine GoC.block ?_ | refine GoC.region rfl ?_ | refine GoC.draw env_mixed ?_ | refine GoC.skip ?_ | refine GoC.exit ?_ | refine GoC.ret ?_ | (refine GoC.cond_d rfl ?_ ?_ <;> intro _ <;> try contradiction) | refine GoOps.nil ?_ | refine GoD.done rfl rfl (by kernel_rfl) ?_ | refine GoOps.a rfl ?_ | refine GoD.a rfl ?_ | refine GoD.p (OpL.idx_s rfl rfl (by with_reducible exact rfl) rfl rfl rfl rfl rfl (by (first | assumption | omega))) ?_ | refine GoD.p (OpL.idx_sn rfl rfl rfl rfl rfl rfl (by (first | assumption | omega))) ?_ | refine GoOps.p (OpL.sub rfl rfl (by (first | assumption | omega))) ?_ | refine GoD.p (OpL.sub rfl rfl (by (first | assumption | omega))) ?_ | refine GoD.p (OpL.ldm rfl rfl (by (first | assumption | omega)) rfl (fun _ => rfl)) ?_ | refine GoD.n (OpL.stm rfl rfl rfl (by (first | assumption | omega)) (fun _ => rfl) (fun _ => rfl) rfl) ?_ | refine GoD.n (OpL.stm rfl rfl rfl (by simp only [List.length_set]; omega) (fun _ => rfl) (fun _ => rfl) rfl) ?_)
      · have e : ((k : Int) - 1).toNat = k - 1 := by omega
        refine hR2 (k - 1) _ ⟨by omega, by omega⟩ (by omega) ?_
        rw [← rotR_down (by omega) (by omega) (by omega)]
        try simp only [Nat.zero_add, e]
        (refine AS.sub.mk' _ _ (lk []) rfl rfl ?_ ?_ <;> repeat' (first | exact True.intro | rfl | exact Wk.refl _ | exact Wk.of_eq (congrArg (AV.int .i64) (by omega)) | exact ⟨_, rfl, Elems.mapped (fun _ => rfl) rfl⟩ | refine And.intro ?_ ?_))
      · obtain rfl : k = i := by omega
        try simp only [thenA, inBlockA, beq_self_eq_true, cond_true]
        refine FnPost.by (.inr rfl) (AS.sub.refl _) RetOK.nil ⟨_, merge_last h1 h3 (by omega) hs1 hc h4 h5, rfl, fun p hp => ?_⟩
        simp only [List.mem_cons, List.not_mem_nil, or_false] at hp
        subst hp; rfl
  all_goals (exfalso; omega)
end Go.Proofs.YtfbjoamdkieamaaGreat.AM
end
