/-
  For every format and sector the law LayoutMoves returns true and leaves its arguments as they were: no condition. (part 5 of 5)
-/
import Derived.Test.YtfbjoamdkieamaaGreatMvd

section
set_option linter.unusedSimpArgs false
set_option linter.unusedVariables false
namespace Go.Proofs.YtfbjoamdkieamaaGreat.AM
open Go Go.Proofs

theorem rm_eq {s : Int} : ∀ {l : List Int}, l.Pairwise (· < ·) → s ∈ l → l.take (l.countP (· < s)) ++ l.drop (l.countP (· < s) + 1) = l.filter (fun x => decide (x ≠ s))
  | [], _, h => by simp at h
  | y :: r, hp, hm => by
    obtain ⟨h1, h2⟩ := List.pairwise_cons.1 hp
    rcases Int.lt_trichotomy y s with h | h | h
    · have hr : s ∈ r := by
        rcases List.mem_cons.1 hm with h3 | h3
        · omega
        · exact h3
      have ih := rm_eq h2 hr
      have e : (y :: r).countP (· < s) = r.countP (· < s) + 1 := by rw [List.countP_cons_of_pos]; simpa using h
      rw [e, List.take_succ_cons, List.drop_succ_cons, List.cons_append, ih, List.filter_cons_of_pos]
      simp; omega
    · subst h
      have hz : r.countP (· < y) = 0 := by
        rw [List.countP_eq_zero]
        intro x hx
        have := h1 x hx
        simp; omega
      have e : (y :: r).countP (· < y) = 0 := by rw [List.countP_cons_of_neg (by simp), hz]
      rw [e]
      have hf : r.filter (fun x => decide (x ≠ y)) = r := by
        rw [List.filter_eq_self]
        intro x hx
        have := h1 x hx
        simp; omega
      rw [List.filter_cons_of_neg (by simp), hf]
      simp
    · exfalso
      rcases List.mem_cons.1 hm with h3 | h3
      · omega
      · have := h1 s h3; omega

theorem ixOf_neg {x : Int} : ∀ {l : List Int}, ixOf x l < 0 → ∀ j, j < l.length → l.getD j default ≠ x
  | [], _, j, hj => by simp at hj
  | y :: r, h, j, hj => by
    simp only [ixOf] at h
    split at h
    · omega
    · rename_i hxy
      split at h
      · rename_i h1
        cases j with
        | zero => simp only [List.getD_cons_zero]; exact fun e => hxy e.symm
        | succ j => simp only [List.getD_cons_succ]; exact ixOf_neg h1 j (by simpa using hj)
      · omega
theorem ixOf_get {x : Int} : ∀ {l : List Int}, ¬ ixOf x l < 0 → (ixOf x l).toNat < l.length ∧ l.getD (ixOf x l).toNat default = x
  | [], h => by simp [ixOf] at h
  | y :: r, h => by
    simp only [ixOf] at h ⊢
    split
    · rename_i hxy; simp [hxy]
    · rename_i hxy
      rw [if_neg hxy] at h
      split at h
      · omega
      · rename_i h1
        rw [if_neg h1]
        obtain ⟨h2, h3⟩ := ixOf_get h1
        have e : (ixOf x r + 1).toNat = (ixOf x r).toNat + 1 := by omega
        rw [e]
        refine ⟨by simp; omega, ?_⟩
        rw [List.getD_cons_succ]; exact h3

theorem zat_le {d : Disk} (hd : d.Good) {i j : Nat} (h : i ≤ j) : zat d i ≤ zat d j := by
  induction j with
  | zero =>
    obtain rfl : i = 0 := by omega
    exact Int.le_refl _
  | succ j ih =>
    by_cases c : i ≤ j
    · exact Int.le_trans (ih c) (zat_mono hd j)
    · obtain rfl : i = j + 1 := by omega
      exact Int.le_refl _
theorem ownN_eq {d : Disk} (hd : d.Good) {s : Int} {k : Nat} (h1 : zat d k ≤ s) (h2 : s < zat d (k + 1)) : ∀ n, k < n → n ≤ d.zones.length → ownN d.zr s n = k
  | 0, h, _ => by omega
  | n + 1, h, hn => by
    have hg : d.zr.getD n default = ⟨zat d n, zat d (n + 1)⟩ := zrs_get (by omega)
    simp only [ownN, hg]
    by_cases c : k = n
    · subst c; rw [if_pos ⟨h1, h2⟩]
    · have := zat_le hd (by omega : k + 1 ≤ n)
      rw [if_neg (by omega)]
      exact ownN_eq hd h1 h2 n (by omega) (by omega)
theorem giveAt_some {free : List (List Int)} {own : Nat} (hn : 0 < free.length) : ∀ {k i j : Nat}, giveAt free own k i = some j → j < free.length ∧ 0 < (free.getD j default).length
  | 0, i, j, h => by simp [giveAt] at h
  | k + 1, i, j, h => by
    simp only [giveAt] at h
    split at h
    · rename_i h1
      have e := Option.some.inj h
      subst e
      refine ⟨?_, h1⟩
      have h2 := Int.emod_nonneg ((own : Int) + i) (b := (free.length : Int)) (by omega)
      have h3 := Int.emod_lt_of_pos ((own : Int) + i) (b := (free.length : Int)) (by omega)
      unfold turnJ; omega
    · exact giveAt_some hn h

structure Plan.Inv (d : Disk) (p : Plan) : Prop where
  len : p.free.length = d.zones.length
  fr : ∀ k, k < p.free.length → (p.free.getD k default).Pairwise (· < ·) ∧ ∀ x ∈ p.free.getD k default, zat d k ≤ x ∧ x < zat d (k + 1) ∧ (mget p.given x).getD 0 = 0
  bl : ∀ i, i < p.blocks.length → p.blocks.getD i default ≠ -1 → 0 ≤ p.blocks.getD i default ∧ (mget p.given (p.blocks.getD i default)).getD 0 = 0 ∧ ∀ k, k < p.free.length → p.blocks.getD i default ∉ p.free.getD k default
  un : ∀ i j, i < p.blocks.length → j < p.blocks.length → p.blocks.getD i default = p.blocks.getD j default → p.blocks.getD i default ≠ -1 → i = j

/-- A sector is given up: what becomes of the plan. -/
inductive Grown (d : Disk) (p : Plan) (s : Int) : Plan → Prop where
  | again (h : 0 < (mget p.given s).getD 0) : Grown d p s { p with given := mput p.given s ((mget p.given s).getD 0 + 1) }
  | spare (own : Nat) (h : ¬ 0 < (mget p.given s).getD 0) (ho : own = ownN d.zr s d.zones.length) (hs : s ∈ p.free.getD own default) :
      Grown d p s { p with given := mput p.given s ((mget p.given s).getD 0 + 1), free := p.free.set own ((p.free.getD own default).take ((p.free.getD own default).countP (· < s)) ++ (p.free.getD own default).drop ((p.free.getD own default).countP (· < s) + 1)) }
  | none_ (own : Nat) (h : ¬ 0 < (mget p.given s).getD 0) (ho : own = ownN d.zr s d.zones.length) (hs : s ∉ p.free.getD own default) (hi : ixOf s p.blocks < 0) : Grown d p s { p with given := mput p.given s ((mget p.given s).getD 0 + 1) }
  | lost (own : Nat) (h : ¬ 0 < (mget p.given s).getD 0) (ho : own = ownN d.zr s d.zones.length) (hs : s ∉ p.free.getD own default) (hi : ¬ ixOf s p.blocks < 0) (hg : giveAt p.free own p.free.length 0 = none) :
      Grown d p s { p with given := mput p.given s ((mget p.given s).getD 0 + 1), blocks := p.blocks.set (ixOf s p.blocks).toNat (-1) }
  | moved (own j : Nat) (h : ¬ 0 < (mget p.given s).getD 0) (ho : own = ownN d.zr s d.zones.length) (hs : s ∉ p.free.getD own default) (hi : ¬ ixOf s p.blocks < 0) (hg : giveAt p.free own p.free.length 0 = some j) :
      Grown d p s { given := mput p.given s ((mget p.given s).getD 0 + 1), blocks := p.blocks.set (ixOf s p.blocks).toNat ((p.free.getD j default).getD 0 default), free := p.free.set j ((p.free.getD j default).drop 1) }
theorem Plan.grown (d : Disk) (p : Plan) (s : Int) : Grown d p s (p.grow d s) := by
  unfold Plan.grow
  dsimp only
  by_cases h1 : 1 < (mget p.given s).getD 0 + 1
  · rw [if_pos h1]; exact .again (by omega)
  · rw [if_neg h1]
    by_cases h2 : (p.free.getD (ownN d.zr s d.zones.length) default).contains s = true
    · rw [if_pos h2]; exact .spare _ (by omega) rfl (by simpa using h2)
    · rw [if_neg h2]
      have h2' : s ∉ p.free.getD (ownN d.zr s d.zones.length) default := by simpa using h2
      by_cases h3 : ixOf s p.blocks < 0
      · rw [if_pos h3]; exact .none_ _ (by omega) rfl h2' h3
      · rw [if_neg h3]
        split
        · rename_i h4; exact .lost _ (by omega) rfl h2' h3 h4
        · rename_i j h4; exact .moved _ j (by omega) rfl h2' h3 h4

theorem getD_mput (g : List (Int × Int)) (s x v : Int) : (mget (mput g s v) x).getD 0 = if x = s then v else (mget g x).getD 0 := by
  rw [mget_mput]; split <;> rfl

/-- A sector that is free is free in its own zone alone. -/
theorem Plan.Inv.free_own {d : Disk} {p : Plan} (hd : d.Good) (h : p.Inv d) {s : Int} {k : Nat} (hk : k < p.free.length) (hs : s ∈ p.free.getD k default) : ownN d.zr s d.zones.length = k := by
  have := (h.fr k hk).2 s hs
  exact ownN_eq hd this.1 this.2.1 _ (by rw [← h.len]; exact hk) (Nat.le_refl _)

theorem Plan.Inv.grow {d : Disk} {p : Plan} (hd : d.Good) (h : p.Inv d) {s : Int} (h0 : 0 ≤ s) : (p.grow d s).Inv d := by
  have hg := p.grown d s
  generalize p.grow d s = p' at hg
  cases hg with
  | again h1 =>
    refine ⟨h.len, fun k hk => ⟨(h.fr k hk).1, fun x hx => ?_⟩, fun i hi hne => ?_, h.un⟩
    · obtain ⟨h2, h3, h4⟩ := (h.fr k hk).2 x hx
      refine ⟨h2, h3, ?_⟩
      rw [getD_mput, if_neg (by intro e; subst e; omega)]; exact h4
    · obtain ⟨h2, h3, h4⟩ := h.bl i hi hne
      refine ⟨h2, ?_, h4⟩
      rw [getD_mput, if_neg (by intro e; dsimp only at h3 e; rw [e] at h3; omega)]; exact h3
  | spare own h1 ho hs =>
    have hol : own < p.free.length := by
      by_cases c : own < p.free.length
      · exact c
      · rw [List.getD_eq_getElem?_getD, List.getElem?_eq_none (by omega)] at hs
        simp [default] at hs
    have hrm := rm_eq (h.fr own hol).1 hs
    rw [hrm]
    refine ⟨by simp [h.len], fun k hk => ?_, fun i hi hne => ?_, h.un⟩
    · simp only [List.length_set] at hk
      dsimp only
      rw [getD_set]
      by_cases c : k = own ∧ own < p.free.length
      · rw [if_pos c]
        obtain ⟨rfl, _⟩ := c
        refine ⟨(h.fr k hk).1.filter _, fun x hx => ?_⟩
        rw [List.mem_filter, decide_eq_true_eq] at hx
        obtain ⟨h2, h3, h4⟩ := (h.fr k hk).2 x hx.1
        refine ⟨h2, h3, ?_⟩
        rw [getD_mput, if_neg hx.2]; exact h4
      · rw [if_neg c]
        refine ⟨(h.fr k hk).1, fun x hx => ?_⟩
        obtain ⟨h2, h3, h4⟩ := (h.fr k hk).2 x hx
        refine ⟨h2, h3, ?_⟩
        rw [getD_mput, if_neg]
        · exact h4
        · intro e
          subst e
          have h5 := h.free_own hd hk hx
          exact c ⟨by omega, hol⟩
    · dsimp only at hi hne ⊢
      obtain ⟨h2, h3, h4⟩ := h.bl i hi hne
      refine ⟨h2, ?_, fun k hk => ?_⟩
      · rw [getD_mput, if_neg]
        · exact h3
        · intro e
          rw [e] at h4
          exact h4 own hol hs
      · simp only [List.length_set] at hk
        rw [getD_set]
        split
        · rw [List.mem_filter]
          intro hx
          exact h4 own hol hx.1
        · exact h4 k hk
  | none_ own h1 ho hs hi0 =>
    refine ⟨h.len, fun k hk => ⟨(h.fr k hk).1, fun x hx => ?_⟩, fun i hi hne => ?_, h.un⟩
    · obtain ⟨h2, h3, h4⟩ := (h.fr k hk).2 x hx
      refine ⟨h2, h3, ?_⟩
      rw [getD_mput, if_neg]
      · exact h4
      · intro e
        subst e
        have h5 := h.free_own hd hk hx
        subst ho
        rw [h5] at hs
        exact hs hx
    · obtain ⟨h2, h3, h4⟩ := h.bl i hi hne
      refine ⟨h2, ?_, h4⟩
      rw [getD_mput, if_neg]
      · exact h3
      · exact ixOf_neg hi0 i hi
  | lost own h1 ho hs hi0 hg =>
    obtain ⟨hx1, hx2⟩ := ixOf_get hi0
    generalize hix : (ixOf s p.blocks).toNat = ix at *
    have hfs : ∀ k, k < p.free.length → s ∉ p.free.getD k default := fun k hk hx => by
      have h5 := h.free_own hd hk hx
      subst ho
      rw [h5] at hs
      exact hs hx
    refine ⟨h.len, fun k hk => ⟨(h.fr k hk).1, fun x hx => ?_⟩, fun i hi hne => ?_, fun i j hi hj he hne => ?_⟩
    · obtain ⟨h2, h3, h4⟩ := (h.fr k hk).2 x hx
      refine ⟨h2, h3, ?_⟩
      rw [getD_mput, if_neg (fun e => hfs k hk (by rw [← e]; exact hx))]; exact h4
    · simp only [List.length_set] at hi
      dsimp only at hne ⊢
      rw [getD_set] at hne ⊢
      by_cases c : i = ix ∧ ix < p.blocks.length
      · rw [if_pos c] at hne; exact absurd rfl hne
      · rw [if_neg c] at hne ⊢
        obtain ⟨h2, h3, h4⟩ := h.bl i hi hne
        refine ⟨h2, ?_, h4⟩
        rw [getD_mput, if_neg]
        · exact h3
        · intro e
          have := h.un i ix hi hx1 (by rw [e, hx2]) hne
          exact c ⟨this, hx1⟩
    · simp only [List.length_set] at hi hj
      dsimp only at he hne
      rw [getD_set] at he hne
      rw [getD_set] at he
      by_cases c : i = ix ∧ ix < p.blocks.length
      · rw [if_pos c] at hne; exact absurd rfl hne
      · rw [if_neg c] at he hne
        by_cases c2 : j = ix ∧ ix < p.blocks.length
        · rw [if_pos c2] at he; exact absurd he hne
        · rw [if_neg c2] at he; exact h.un i j hi hj he hne
  | moved own j h1 ho hs hi0 hg =>
    obtain ⟨hx1, hx2⟩ := ixOf_get hi0
    generalize hix : (ixOf s p.blocks).toNat = ix at *
    have hfs : ∀ k, k < p.free.length → s ∉ p.free.getD k default := fun k hk hx => by
      have h5 := h.free_own hd hk hx
      subst ho
      rw [h5] at hs
      exact hs hx
    have hz1 := hd.len
    obtain ⟨hj1, hj2⟩ := giveAt_some (by rw [h.len]; omega) hg
    have hsp : (p.free.getD j default).getD 0 default ∈ p.free.getD j default := by rw [gd hj2]; exact List.getElem_mem _
    generalize hy : (p.free.getD j default).getD 0 default = y at *
    obtain ⟨hy1, hy2, hy3⟩ := (h.fr j hj1).2 y hsp
    have hys : y ≠ s := fun e => hfs j hj1 (by rw [← e]; exact hsp)
    have hy0 : 0 ≤ y := by have := (zat_b hd j).1; omega
    have hyb : ∀ i, i < p.blocks.length → p.blocks.getD i default ≠ y := fun i hi e => by
      have := h.bl i hi (by rw [e]; omega)
      rw [e] at this
      exact this.2.2 j hj1 hsp
    have htail : (p.free.getD j default) = y :: (p.free.getD j default).drop 1 := by
      cases hc : p.free.getD j default with
      | nil => rw [hc] at hj2; simp at hj2
      | cons a r => rw [hc] at hy; simp at hy; simp [hy]
    have hyt : y ∉ (p.free.getD j default).drop 1 := fun hm => by
      have hp := (h.fr j hj1).1
      rw [htail] at hp
      have := (List.pairwise_cons.1 hp).1 y hm
      omega
    refine ⟨by simp [h.len], fun k hk => ?_, fun i hi hne => ?_, fun i i' hi hi' he hne => ?_⟩
    · simp only [List.length_set] at hk
      dsimp only
      rw [getD_set]
      by_cases c : k = j ∧ j < p.free.length
      · rw [if_pos c]
        obtain ⟨rfl, _⟩ := c
        refine ⟨(h.fr k hk).1.sublist (List.drop_sublist _ _), fun x hx => ?_⟩
        have hx' := List.mem_of_mem_drop hx
        obtain ⟨h2, h3, h4⟩ := (h.fr k hk).2 x hx'
        refine ⟨h2, h3, ?_⟩
        rw [getD_mput, if_neg (fun e => hfs k hk (by rw [← e]; exact hx'))]; exact h4
      · rw [if_neg c]
        refine ⟨(h.fr k hk).1, fun x hx => ?_⟩
        obtain ⟨h2, h3, h4⟩ := (h.fr k hk).2 x hx
        refine ⟨h2, h3, ?_⟩
        rw [getD_mput, if_neg (fun e => hfs k hk (by rw [← e]; exact hx))]; exact h4
    · simp only [List.length_set] at hi
      dsimp only at hne ⊢
      rw [getD_set] at hne ⊢
      by_cases c : i = ix ∧ ix < p.blocks.length
      · rw [if_pos c]
        refine ⟨hy0, ?_, fun k hk => ?_⟩
        · rw [getD_mput, if_neg hys]; exact hy3
        · simp only [List.length_set] at hk
          rw [getD_set]
          split
          · exact hyt
          · rename_i c2
            intro hm
            have e1 := h.free_own hd hk hm
            have e2 := h.free_own hd hj1 hsp
            exact c2 ⟨by omega, hj1⟩
      · rw [if_neg c] at hne ⊢
        obtain ⟨h2, h3, h4⟩ := h.bl i hi hne
        refine ⟨h2, ?_, fun k hk => ?_⟩
        · rw [getD_mput, if_neg]
          · exact h3
          · intro e
            have := h.un i ix hi hx1 (by rw [e, hx2]) hne
            exact c ⟨this, hx1⟩
        · simp only [List.length_set] at hk
          rw [getD_set]
          split
          · exact fun hm => h4 j hj1 (List.mem_of_mem_drop hm)
          · exact h4 k hk
    · simp only [List.length_set] at hi hi'
      dsimp only at he hne
      rw [getD_set] at he hne
      rw [getD_set] at he
      by_cases c : i = ix ∧ ix < p.blocks.length
      · rw [if_pos c] at he hne
        by_cases c2 : i' = ix ∧ ix < p.blocks.length
        · omega
        · rw [if_neg c2] at he
          exact absurd he.symm (hyb i' hi')
      · rw [if_neg c] at he hne
        by_cases c2 : i' = ix ∧ ix < p.blocks.length
        · rw [if_pos c2] at he
          exact absurd he (hyb i hi)
        · rw [if_neg c2] at he
          exact h.un i i' hi hi' he hne

/-! ### The plan without messages -/
theorem goodN_lt (g : List (Int × Int)) (from_ : Int) (n : Nat) : (goodN g from_ n).Pairwise (· < ·) := by
  unfold goodN
  refine List.Pairwise.filter _ ?_
  rw [List.pairwise_map]
  exact List.pairwise_lt_range.imp fun h => by omega
theorem goodN_mem {g : List (Int × Int)} {from_ : Int} {n : Nat} {x : Int} (h : x ∈ goodN g from_ n) : from_ ≤ x ∧ x < from_ + n ∧ (mget g x).getD 0 = 0 := by
  unfold goodN at h
  rw [List.mem_filter, decide_eq_true_eq, List.mem_map] at h
  obtain ⟨⟨k, hk, rfl⟩, h2⟩ := h
  have := List.mem_range.1 hk
  exact ⟨by omega, by omega, h2⟩
structure Laid (f : Format) (n : Nat) : Prop where
  len : (layN f n).2.length = n
  inc : (layN f n).1.Pairwise (· < ·)
  bl : ∀ x ∈ (layN f n).1, 0 ≤ x ∧ x < zat f.disk n ∧ (mget (tally f.primary) x).getD 0 = 0
  fr : ∀ k, k < n → ((layN f n).2.getD k default).Pairwise (· < ·) ∧ ∀ x ∈ (layN f n).2.getD k default, zat f.disk k ≤ x ∧ x < zat f.disk (k + 1) ∧ (mget (tally f.primary) x).getD 0 = 0 ∧ x ∉ (layN f n).1
theorem laid {f : Format} (hd : f.disk.Good) : ∀ n, n ≤ f.disk.zr.length → Laid f n
  | 0, _ => ⟨rfl, by simp [layN], fun x hx => by simp [layN] at hx, fun k hk => by omega⟩
  | n + 1, hn => by
    obtain ⟨h1, h2, h3, h4⟩ := laid hd n (by omega)
    have hl : f.disk.zr.length = f.disk.zones.length := zrs_len _ _
    have hg : f.disk.zr.getD n default = ⟨zat f.disk n, zat f.disk (n + 1)⟩ := zrs_get (by omega)
    have hm := zat_mono hd n
    have hb := zat_b hd n
    have e : layN f (n + 1) = ((layN f n).1 ++ (goodZ f (f.disk.zr.getD n default)).take (cutOf f (goodZ f (f.disk.zr.getD n default))), (layN f n).2 ++ [(goodZ f (f.disk.zr.getD n default)).drop (cutOf f (goodZ f (f.disk.zr.getD n default)))]) := layN_succ f (by omega : n < f.disk.zr.length)
    have hgm : ∀ x ∈ goodZ f (f.disk.zr.getD n default), zat f.disk n ≤ x ∧ x < zat f.disk (n + 1) ∧ (mget (tally f.primary) x).getD 0 = 0 := fun x hx => by
      rw [hg] at hx
      have := goodN_mem hx
      dsimp only at this
      exact ⟨this.1, by omega, this.2.2⟩
    have hgp : (goodZ f (f.disk.zr.getD n default)).Pairwise (· < ·) := goodN_lt _ _ _
    generalize goodZ f (f.disk.zr.getD n default) = good at *
    generalize hL : layN f n = L at *
    obtain ⟨B, F⟩ := L
    dsimp only at h1 h2 h3 h4
    have e1 : (layN f (n + 1)).1 = B ++ good.take (cutOf f good) := by rw [e]
    have e2 : (layN f (n + 1)).2 = F ++ [good.drop (cutOf f good)] := by rw [e]
    have hsplit := hgp
    rw [← List.take_append_drop (cutOf f good) good, List.pairwise_append] at hsplit
    refine ⟨by rw [e2]; simp [h1], ?_, fun x hx => ?_, fun k hk => ?_⟩
    · rw [e1, List.pairwise_append]
      refine ⟨h2, hsplit.1, fun a ha b hb' => ?_⟩
      have h5 := h3 a ha
      have h6 := hgm b (List.mem_of_mem_take hb')
      omega
    · rw [e1] at hx
      rcases List.mem_append.1 hx with hx | hx
      · have := h3 x hx
        exact ⟨this.1, by omega, this.2.2⟩
      · have := hgm x (List.mem_of_mem_take hx)
        exact ⟨by omega, this.2.1, this.2.2⟩
    · rw [e1, e2]
      by_cases c : k < n
      · have e3 : (F ++ [good.drop (cutOf f good)]).getD k default = F.getD k default := by simp [List.getD_eq_getElem?_getD, List.getElem?_append_left (by omega : k < F.length)]
        rw [e3]
        refine ⟨(h4 k c).1, fun x hx => ?_⟩
        obtain ⟨h5, h6, h7, h8⟩ := (h4 k c).2 x hx
        refine ⟨h5, h6, h7, fun hm' => ?_⟩
        rcases List.mem_append.1 hm' with h9 | h9
        · exact h8 h9
        · have h10 := hgm x (List.mem_of_mem_take h9)
          have := zat_le hd (by omega : k + 1 ≤ n)
          omega
      · obtain rfl : k = n := by omega
        have e3 : (F ++ [good.drop (cutOf f good)]).getD k default = good.drop (cutOf f good) := by rw [List.getD_eq_getElem?_getD, List.getElem?_append_right (by omega), h1]; simp
        rw [e3]
        refine ⟨hsplit.2.1, fun x hx => ?_⟩
        obtain ⟨h5, h6, h7⟩ := hgm x (List.mem_of_mem_drop hx)
        refine ⟨h5, h6, h7, fun hm' => ?_⟩
        rcases List.mem_append.1 hm' with h9 | h9
        · have := h3 x h9; omega
        · have := hsplit.2.2 x h9 x hx; omega
theorem plan0_inv {f : Format} (hd : f.disk.Good) : (plan0 f).Inv f.disk := by
  have hl : f.disk.zr.length = f.disk.zones.length := zrs_len _ _
  obtain ⟨h1, h2, h3, h4⟩ := laid hd _ (Nat.le_refl f.disk.zr.length)
  refine ⟨by rw [← hl]; exact h1, fun k hk => ⟨(h4 k (by rw [← h1]; exact hk)).1, fun x hx => ?_⟩, fun i hi hne => ?_, fun i j hi hj he hne => ?_⟩
  · obtain ⟨h5, h6, h7, _⟩ := (h4 k (by rw [← h1]; exact hk)).2 x hx
    exact ⟨h5, h6, h7⟩
  · have hm : (plan0 f).blocks.getD i default ∈ (layN f f.disk.zr.length).1 := by rw [gd hi]; exact List.getElem_mem hi
    obtain ⟨h5, _, h6⟩ := h3 _ hm
    exact ⟨h5, h6, fun k hk hx => ((h4 k (by rw [← h1]; exact hk)).2 _ hx).2.2.2 hm⟩
  · rw [gd hi, gd hj] at he
    rcases Nat.lt_trichotomy i j with c | c | c
    · have := (List.pairwise_iff_getElem.1 h2) i j hi hj c
      have : (plan0 f).blocks[i] < (plan0 f).blocks[j] := this
      omega
    · exact c
    · have := (List.pairwise_iff_getElem.1 h2) j i hj hi c
      have : (plan0 f).blocks[j] < (plan0 f).blocks[i] := this
      omega
theorem growL_inv {f : Format} (hd : f.disk.Good) : ∀ (l : List Defect) (p : Plan), p.Inv f.disk → (∀ d ∈ l, 0 ≤ d.sector) → (growL f p l).Inv f.disk
  | [], p, h, _ => h
  | x :: l, p, h, hl => growL_inv hd l (p.grow f.disk x.sector) (h.grow hd (hl x (by simp))) fun d hd' => hl d (by simp [hd'])

/-! ### One more message -/
theorem grow_len (d : Disk) (p : Plan) (s : Int) : (p.grow d s).blocks.length = p.blocks.length := by
  have hg := p.grown d s
  generalize p.grow d s = p' at hg
  cases hg <;> simp
theorem growL_len (f : Format) : ∀ (l : List Defect) (p : Plan), (growL f p l).blocks.length = p.blocks.length
  | [], _ => rfl
  | x :: l, p => by
    show (growL f (p.grow f.disk x.sector) l).blocks.length = _
    rw [growL_len f l, grow_len]
theorem grow_given' (d : Disk) (p : Plan) (s : Int) : (p.grow d s).given = mput p.given s ((mget p.given s).getD 0 + 1) := by
  have hg := p.grown d s
  generalize p.grow d s = p' at hg
  cases hg <;> rfl
theorem grow_key (d : Disk) (p : Plan) (s : Int) : s ∈ (p.grow d s).given.map (·.1) := by
  rw [grow_given', mput_key_mem]; exact .inl rfl
/-- The block that has the sector leaves it; no other block moves. -/
theorem Plan.Inv.moves {d : Disk} {p : Plan} (hd : d.Good) (h : p.Inv d) {s : Int} (h0 : 0 ≤ s) {b : Nat} (hb : b < p.blocks.length) :
    (p.blocks.getD b default = s → (p.grow d s).blocks.getD b default ≠ s) ∧ (p.blocks.getD b default ≠ s → (p.grow d s).blocks.getD b default = p.blocks.getD b default) := by
  have hg := p.grown d s
  generalize p.grow d s = p' at hg
  cases hg with
  | again h1 =>
    refine ⟨fun e => ?_, fun _ => rfl⟩
    have := (h.bl b hb (by omega)).2.1
    rw [e] at this; omega
  | spare own h1 ho hs =>
    refine ⟨fun e => ?_, fun _ => rfl⟩
    have := (h.bl b hb (by omega)).2.2
    have hol : own < p.free.length := by
      by_cases c : own < p.free.length
      · exact c
      · rw [List.getD_eq_getElem?_getD, List.getElem?_eq_none (by omega)] at hs
        simp [default] at hs
    rw [e] at this
    exact absurd hs (this own hol)
  | none_ own h1 ho hs hi0 => exact ⟨fun e => absurd e (ixOf_neg hi0 b hb), fun _ => rfl⟩
  | lost own h1 ho hs hi0 hg =>
    obtain ⟨hx1, hx2⟩ := ixOf_get hi0
    dsimp only
    rw [getD_set]
    refine ⟨fun e => ?_, fun hne => ?_⟩
    · have := h.un b _ hb hx1 (by rw [e, hx2]) (by omega)
      rw [if_pos ⟨this, hx1⟩]; omega
    · rw [if_neg]
      rintro ⟨rfl, _⟩
      exact hne hx2
  | moved own j h1 ho hs hi0 hg =>
    obtain ⟨hx1, hx2⟩ := ixOf_get hi0
    obtain ⟨hj1, hj2⟩ := giveAt_some (by rw [h.len]; have := hd.len; omega) hg
    have hsp : (p.free.getD j default).getD 0 default ∈ p.free.getD j default := by rw [gd hj2]; exact List.getElem_mem _
    dsimp only
    rw [getD_set]
    refine ⟨fun e => ?_, fun hne => ?_⟩
    · have := h.un b _ hb hx1 (by rw [e, hx2]) (by omega)
      rw [if_pos ⟨this, hx1⟩]
      intro e2
      have h5 := (h.bl b hb (by omega)).2.2 j hj1
      rw [e, ← e2] at h5
      exact h5 hsp
    · rw [if_neg]
      rintro ⟨rfl, _⟩
      exact hne hx2
end Go.Proofs.YtfbjoamdkieamaaGreat.AM
end

section
set_option linter.unusedSimpArgs false
set_option linter.unusedVariables false
set_option maxHeartbeats 8000000
namespace Go.Proofs.YtfbjoamdkieamaaGreat.AM
open Go Go.Proofs Go.Sort Go.ChangeShapes Go.WideShapes Go.ChangeAt Go.RowKit

theorem lDone_members {l : List Defect} (hv : inVD l) (h : agree l) (x : Defect) : x ∈ lDone l ↔ x ∈ l := by
  rw [(lDone_perm hv).mem_iff, allOf_vals h]
theorem lDone_agree {l : List Defect} (hv : inVD l) (h : agree l) : agree (lDone l) := fun a ha b hb => h a ((lDone_members hv h a).1 ha) b ((lDone_members hv h b).1 hb)
theorem lDone_twice {l : List Defect} (hv : inVD l) (h : agree l) : lDone (lDone l) = lDone l := lDone_eq (lDone_agree hv h) h (lDone_members hv h) hv
theorem inc_nodup {l : List Defect} (h : l.Pairwise fun a b => a.id < b.id) : l.Nodup := h.imp fun h e => by subst e; omega
theorem lDone_snoc {l : List Defect} {x : Defect} (hv : inVD (l ++ [x])) (h : agree (l ++ [x])) (hx : ∀ y ∈ l, y.id < x.id) : lDone (l ++ [x]) = lDone l ++ [x] := by
  have hv' : inVD l := fun d hd => hv d (by simp [hd])
  have h' : agree l := fun a ha b hb => h a (by simp [ha]) b (by simp [hb])
  have h1 := lDone_inc hv
  have h2 : (lDone l ++ [x]).Pairwise fun a b => a.id < b.id := by
    rw [List.pairwise_append]
    refine ⟨lDone_inc hv', by simp, fun a ha b hb => ?_⟩
    simp only [List.mem_singleton] at hb
    subst hb
    exact hx a ((lDone_members hv' h' a).1 ha)
  refine List.Perm.eq_of_pairwise (fun a b _ _ h h' => absurd h (by omega)) h1 h2 ((List.perm_ext_iff_of_nodup (inc_nodup h1) (inc_nodup h2)).2 fun y => ?_)
  rw [lDone_members hv h, List.mem_append, List.mem_append, lDone_members hv' h']
theorem stSort_lt2 {l : List Defect} (h : l.Pairwise fun a b => a.id < b.id) : (stSort l).Pairwise lt2 := by
  have hne : (stSort l).Pairwise (fun a b => a.id ≠ b.id) := (List.Perm.pairwise_iff (fun {a b} h => fun h' => h h'.symm) (stSort_perm l)).2 (h.imp fun h => by omega)
  refine (List.pairwise_and_iff.2 ⟨stSort_sorted l, hne⟩).imp fun ⟨h, h'⟩ => ?_
  simp only [le2, decide_eq_true_eq] at h
  unfold lt2; omega
theorem stSort_snoc {l : List Defect} {x : Defect} (h : l.Pairwise fun a b => a.id < b.id) (hx : ∀ y ∈ l, y.stamp < x.stamp) : stSort (l ++ [x]) = stSort l ++ [x] := by
  refine (stSort_eq ((stSort_perm l).append_right [x]) ?_).symm
  rw [List.pairwise_append]
  refine ⟨stSort_lt2 h, by simp, fun a ha b hb => ?_⟩
  simp only [List.mem_singleton] at hb
  subst hb
  exact .inl (hx a ((stSort_perm l).mem_iff.1 ha))

theorem growL_append (f : Format) (p : Plan) (l l' : List Defect) : growL f p (l ++ l') = growL f (growL f p l) l' := by simp [growL]
theorem Rdy.sectors {f : Format} (h : Rdy f) : ∀ d ∈ msgs f, 0 ≤ d.sector := fun d hd => by
  have hm := (stSort_perm _).mem_iff.1 hd
  have hm := (lDone_members h.inVD h.agree d).1 hm
  obtain ⟨j, hj, rfl⟩ := List.mem_iff_getElem.1 hm
  have := h.form.2.2.2.2 j hj
  simp only [nth] at this
  rw [gd hj] at this
  exact this.2.2.1
theorem Rdy.inv {f : Format} (h : Rdy f) : (AM.layP f).Inv f.disk := growL_inv h.disk.good _ _ (plan0_inv h.disk.good) h.sectors
theorem Rdy.blocks {f : Format} (h : Rdy f) : ((AM.layP f).blocks.length : Int) ≤ f.disk.count := by
  have e : (AM.layP f).blocks.length = (plan0 f).blocks.length := growL_len f _ _
  rw [e]
  have := (layN_props h.disk.good f.disk.zr.length (Nat.le_refl _)).2.1
  have e2 : zat f.disk f.disk.zr.length = f.disk.count := by
    have hl : f.disk.zr.length = f.disk.zones.length := zrs_len _ _
    unfold zat
    rw [hl, List.take_length]; rfl
  rw [e2] at this
  exact this

theorem moved {f : Format} {s : Int} (hP : movesP f s) :
    Rdy (f.merge [⟨99, 9999, s⟩]) ∧ AM.layP (f.merge [⟨99, 9999, s⟩]) = (AM.layP f).grow f.disk s ∧ agree (f.grown ++ [⟨99, 9999, s⟩]) ∧ Rdy { f with grown := [⟨99, 9999, s⟩] } ∧ (diffOf (f.grown ++ [⟨99, 9999, s⟩])).length ≤ 30 := by
  obtain ⟨h0, h1, h2, h3⟩ := hP
  have hr := h0.rdy
  have hb : ∀ y ∈ f.grown, y.id < 99 ∧ y.stamp < 9999 := fun y hy => by
    obtain ⟨j, hj, rfl⟩ := List.mem_iff_getElem.1 hy
    have := h3 j hj
    rw [gd hj] at this
    exact this
  have hag : agree (f.grown ++ [⟨99, 9999, s⟩]) := by
    intro a ha b hb' hid
    simp only [List.mem_append, List.mem_singleton] at ha hb'
    rcases ha with ha | rfl <;> rcases hb' with hb' | rfl
    · exact hr.agree a ha b hb' hid
    · have := (hb a ha).1; dsimp only at hid; omega
    · have := (hb b hb').1; dsimp only at hid; omega
    · rfl
  have hv : inVD (f.grown ++ [⟨99, 9999, s⟩]) := fun d hd => by
    rcases List.mem_append.1 hd with hd | hd
    · exact hr.inVD d hd
    · simp only [List.mem_singleton] at hd; subst hd; exact ⟨⟨by dsimp only; omega, by dsimp only; omega⟩, by dsimp only; omega, by dsimp only; omega⟩
  have hform : ∀ l : List Defect, l.length ≤ 30 → (∀ x ∈ l, x ∈ f.grown ++ [⟨99, 9999, s⟩]) → Rdy { f with grown := l } := fun l hl hm => by
    refine ⟨hr.disk, ⟨hr.form.1, hr.form.2.1, hl, hr.form.2.2.2.1, fun i hi => ?_⟩, fun a ha b hb => hag a (hm a ha) b (hm b hb)⟩
    have hx : nth l i ∈ f.grown ++ [⟨99, 9999, s⟩] := hm _ (by simp only [nth]; rw [gd hi]; exact List.getElem_mem hi)
    rcases List.mem_append.1 hx with hx | hx
    · obtain ⟨j, hj, he⟩ := List.mem_iff_getElem.1 hx
      have := hr.form.2.2.2.2 j hj
      simp only [nth, gd hj] at this
      rw [he] at this
      exact this
    · simp only [List.mem_singleton] at hx
      show _ ∧ _ ∧ _ ≤ (nth l i).sector ∧ _
      dsimp only
      rw [hx]
      exact ⟨⟨by dsimp only; omega, by dsimp only; omega⟩, ⟨by dsimp only; omega, by dsimp only; omega⟩, h2⟩
  have hdl : (lDone (f.grown ++ [⟨99, 9999, s⟩])).length ≤ 30 := Nat.le_trans (lDone_len hv) (by simp; omega)
  have hm := hform _ hdl fun x hx => lDone_mem hv hx
  refine ⟨hm, ?_, hag, hform _ (by simp) (fun x hx => by simp at hx; simp [hx]), Nat.le_trans (diffOf_len hag) (by simp; omega)⟩
  have hv' : inVD f.grown := hr.inVD
  have e : msgs (f.merge [⟨99, 9999, s⟩]) = msgs f ++ [⟨99, 9999, s⟩] := by
    show stSort (lDone (lDone (f.grown ++ [⟨99, 9999, s⟩]))) = _
    rw [lDone_twice hv hag, lDone_snoc hv hag fun y hy => (hb y hy).1, stSort_snoc (lDone_inc hv') fun y hy => (hb y (lDone_mem hv' hy)).2]
    rfl
  show growL _ (plan0 _) _ = _
  rw [e]
  show growL f (plan0 f) (msgs f ++ [⟨99, 9999, s⟩]) = _
  rw [growL_append]
  rfl

theorem LayoutMoves_holds (f : Format) (s : Int) : PSpec env 4 [f.av, .int .i64 s] (.bool true) := by
  refine moves_walk f s works_spec (f.merge [⟨99, 9999, s⟩]) (AM.layP f).blocks.length (AM.layP f).where_ (AM.layP (f.merge [⟨99, 9999, s⟩])).where_ ((AM.layP f).holder f.disk s) (AM.layP (f.merge [⟨99, 9999, s⟩])).secs fun hP => ?_
  obtain ⟨q1, q2, q3, q4, q5⟩ := moved hP
  obtain ⟨h0, h1, h2, h3⟩ := hP
  have hr := h0.rdy
  have hv := hr.valid
  have hvm := q1.valid
  have hi := hr.inv
  have hd := hr.disk.good
  refine ⟨hr.merge _ q4 q3 q5, Blocks_spec f hv, Holder_spec f hv s, fun b => Where_spec f hv b, fun b => Where_spec _ hvm b, Given_spec _ hvm, ?_, hr.blocks, ?_, fun b hb => ?_⟩
  · unfold Plan.holder
    repeat' split
    · omega
    · exact .inr rfl
    · exact .inl rfl
  · rw [q2]
    unfold Plan.secs
    rw [(List.mergeSort_perm _ _).mem_iff]
    exact grow_key _ _ _
  · have hm := hi.moves hd h2.1 hb
    have hl := grow_len f.disk (AM.layP f) s
    rw [q2]
    generalize (AM.layP f).grow f.disk s = p' at *
    generalize AM.layP f = p at *
    have hw : p.where_ b = if p.blocks.getD b default = -1 then (0, 3) else (p.blocks.getD b default, 0) := by
      unfold Plan.where_
      rw [if_neg (by omega), Int.toNat_natCast]
    have hw' : p'.where_ b = if p'.blocks.getD b default = -1 then (0, 3) else (p'.blocks.getD b default, 0) := by
      unfold Plan.where_
      rw [if_neg (by omega), Int.toNat_natCast]
    have hh : p.holder f.disk s = if ixOf s p.blocks < 0 then (0, 3) else (ixOf s p.blocks, 0) := by
      unfold Plan.holder
      rw [if_neg (by omega)]
    rw [hw, hw', hh]
    by_cases c : ixOf s p.blocks < 0
    · rw [if_pos c]
      have := ixOf_neg c b hb
      rw [hm.2 this]
      exact ⟨fun h => by simp at h, fun _ => ⟨rfl, rfl⟩⟩
    · rw [if_neg c]
      obtain ⟨hx1, hx2⟩ := ixOf_get c
      by_cases c2 : p.blocks.getD b default = s
      · have h5 := hm.1 c2
        have hbi := hi.un b _ hb hx1 (by rw [c2, hx2]) (by omega)
        rw [c2, if_neg (by omega)]
        refine ⟨fun _ => ⟨rfl, rfl, ?_⟩, fun h => ?_⟩
        · split
          · simp
          · exact fun h => h5 h.2
        · exfalso; apply h; dsimp only; omega
      · rw [hm.2 c2]
        refine ⟨fun h => ?_, fun _ => ⟨rfl, rfl⟩⟩
        exfalso
        dsimp only at h
        have : b = (ixOf s p.blocks).toNat := by omega
        rw [this] at c2
        exact c2 hx2

set_option maxRecDepth 100000 in
theorem moves_lifted (walk : ∀ (f : Format) (s : Int), PSpec env 4 [f.av, .int .i64 s] (.bool true)) (os : Os) (started : os.Started) (H : Type) (enc : TypeId × Value → H) :
    ReturnsInHanded {} Tryz.checked os 4 .any (Rows.layoutMovesSpec.pre6 enc Tryz.prog Tryz.f4 Rows.layoutMovesRow.domain false) (Rows.layoutMovesSpec.post enc Tryz.prog Tryz.f4 false true false false) := by
  refine returnsInHanded_of_change (C := Tryz.checked) own started (by kernel_rfl) Tryz.func4
    (ChangeSpec.witness6 (enc := enc) (C := Tryz.checked) false ⟨#[], #[format0, .int .i64 0], []⟩ 8 (by kernel_rfl) (by kernel_rfl) (by kernel_rfl) (by kernel_rfl)) ?_
  intro W base args ds gs before hval0 hW hcnd _
  have hval : ∀ (j : Nat) t v, Tryz.f4.params[j]? = some t → args[j]? = some v → Value.okWide Tryz.prog W .any base t v := hval0
  have hW' := hW
  obtain ⟨p, q, hA0, hV, rfl, hfz, hnd⟩ := hW
  have hA : DataW.TrodAll enc Tryz.prog W 0 (fun _ => true) true Tryz.f4.params.toList args.toList ds p := hA0
  rw [Tryz.params4] at hA hval
  obtain ⟨v0, vs0, d0, ds0, p0, q0, hargs, rfl, rfl, h0, r0⟩ := trodAll_cons hA
  obtain ⟨v1, vs1, d1, ds1, p1, q1, rfl, rfl, rfl, h1, r1⟩ := trodAll_cons r0
  obtain ⟨rfl, rfl, rfl⟩ := trodAll_nil r1
  obtain rfl : args = #[v0, v1] := by cases args; simp_all
  obtain ⟨rfl, rfl⟩ := trodVars_none hV
  obtain ⟨f, hf⟩ := rFormat.arg Tryz.underlying30 (hval 0 _ v0 rfl rfl) h0
  obtain ⟨s, rfl, rfl, rfl, w1⟩ := open_int Tryz.underlying3 (hval 1 _ v1 rfl rfl) h1
  refine ((walk f s).calls (W := W) (vs := [v0, .int .i64 s]) ⟨v0, _, rfl, hf, .int .i64 s, _, rfl, rfl, rfl⟩).mono fun e W' ⟨v, r, H', m', he, hr, hR, hb⟩ => ?_
  subst he hr
  obtain rfl : v = .bool true := hR
  exact ⟨_, rfl, post_kept laidOut (by kernel_rfl) rfl hW' (fun _ _ _ => trodAll_cons_mk (shut_bool Tryz.underlying4 _) trodAll_mk0) (fun _ => rfl) rfl hb (ok_one (by kernel_rfl) rfl (okWide_bool_mk Tryz.underlying4 _))⟩
/-- For every format and sector the law LayoutMoves returns true, and leaves its arguments as they were. -/
theorem layoutMoves_proved : Rows.LayoutMovesSaid :=
  OpenClaim.holds_of_wide 4 Tryz.f4 rfl rfl rfl rfl rfl rfl rfl ⟨rfl, rfl, rfl, rfl, rfl⟩ rfl rfl rfl rfl rfl (by kernel_rfl) Tryz.func4 (by kernel_rfl)
    (of_decide_eq_true (by kernel_rfl)) (by unfold Func.isWrapper; first | (rw [if_pos (by decide +kernel)]; kernel_rfl) | (rw [if_neg (by decide +kernel)]; exact ⟨rfl, rfl⟩))
    (fun os started H enc _ => moves_lifted LayoutMoves_holds os started H enc)
end Go.Proofs.YtfbjoamdkieamaaGreat.AM
end
