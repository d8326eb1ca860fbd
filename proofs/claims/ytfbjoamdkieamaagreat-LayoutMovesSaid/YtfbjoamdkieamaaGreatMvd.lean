/-
  For every format and sector the law LayoutMoves returns true and leaves its arguments as they were: no condition. (part 4 of 5)
-/
import Derived.Test.YtfbjoamdkieamaaGreatMvc
import Derived.Test.YtfbjoamdkieamaaGreatRows
import Derived.WalkKit
import Derived.ProofKit
import Derived.OpenShut
import Derived.Carry
import Derived.Deep.Slices

section
set_option linter.unusedSimpArgs false
set_option linter.unusedVariables false
set_option maxHeartbeats 8000000
namespace Go.Proofs.YtfbjoamdkieamaaGreat.AM
open Go Go.Proofs

theorem GoC.cutA {E : Env} {X : Ctx} {nt id : Nat} {c c' : Code} {Q : Exit → AS → Prop} {s : AS} {G : Type} (st : G → AS) (pre : G → Prop)
    (h : ∀ R : AS → Prop, (∀ g s', pre g → s'.sub (st g) → R s') → GoC E X nt c (inBlockA id (thenA R Q)) s) (h' : ∀ g, pre g → GoC E X nt c' Q (st g)) : GoC E X nt c (inBlockA id (thenA (GoC E X nt c' Q) Q)) s := by
  refine (h (fun s' => ∃ g, pre g ∧ s'.sub (st g)) fun g s' h1 h2 => ⟨g, h1, h2⟩).mono fun e s' he => ?_
  cases e with
  | normal => obtain ⟨g, h1, h2⟩ := he; exact GoC.sub h2 (h' g h1)
  | exit j =>
    simp only [inBlockA] at he ⊢
    cases hj : j == id with
    | true => rw [hj] at he; obtain ⟨g, h1, h2⟩ := he; exact GoC.sub h2 (h' g h1)
    | false => rw [hj] at he; exact he
  | _ => exact he
theorem symMerge_spec : ∀ (n : Nat) (c : Bool) (l : List Defect) (a m b : Nat), b - a ≤ n → a < m → m < b → b ≤ l.length → l.length ≤ 1000 → StB l → SortR l a m → SortR l m b → CrossR l a m b →
    Spec env 91 [.sl c 1000003 3 0 l.length, .int .i64 a, .int .i64 m, .int .i64 b, cmpF] (ofL .free (rowO l)) (fun r H' => ∃ l', Merged l l' a b ∧ r = .tuple [] ∧ ∀ p ∈ rowO l', H' p.1 = p.2) := by
  intro n
  induction n with
  | zero => intro c l a m b h0 h1 h2; omega
  | succ n ih =>
    intro c l a m b h0 ham hmb hb hl hv hs1 hs2 hc
    by_cases hA : m = a + 1
    · subst hA; exact insLeft_spec c l a b hmb hb hl hv hs2 hc
    by_cases hB : b = m + 1
    · subst hB; exact insRight_spec c l a m (by omega) hb hl hv hs1 hc
    obtain ⟨mid, hmid⟩ : ∃ mid : Nat, mid = (a + b) / 2 := ⟨_, rfl⟩
    have emid : ((a : Int) + (b : Int)) / 2 = (mid : Int) := by omega
    refine Spec.introR (nt := _) (rs := []) Tryz.func91 rfl rfl rfl rfl rfl [1000003] (fun i h => ofL_keys _ i h) fun X hX => ?_
    repeat' (first | refine GoC.seq ?_ | refine GoC.block ?_ | refine GoC.region rfl ?_ | refine GoC.skip ?_ | (refine GoC.cond_d rfl ?_ ?_ <;> intro _ <;> try contradiction) | refine GoOps.nil ?_ | refine GoOps.a rfl ?_ | refine GoOps.p (OpL.add rfl rfl (by (first | assumption | omega))) ?_ | refine GoOps.p (OpL.sub rfl rfl (by (first | assumption | omega))) ?_ | refine GoOps.p (OpL.cvtU rfl rfl rfl (by (first | assumption | omega))) ?_ | refine GoOps.p (OpL.cvtI rfl rfl rfl (by (first | assumption | omega))) ?_ | refine GoOps.p (OpL.half rfl rfl) ?_)
    · exfalso; omega
    · exfalso; omega
    case' neg.refine_2.refine_2.refine_1 => obtain ⟨s0, r0, hC, e1, e2⟩ : ∃ s0 r0 : Nat, (a ≤ s0 ∧ s0 ≤ r0 ∧ r0 ≤ m ∧ r0 ≤ mid ∧ mid + m ≤ s0 + b ∧ (s0 = a ∨ s0 + b = mid + m) ∧ (r0 = m ∨ r0 = mid)) ∧ ((a : Int) + (b : Int)) / 2 + (m : Int) - (b : Int) = (s0 : Int) ∧ ((a : Int) + (b : Int)) / 2 = (r0 : Int) := ⟨mid + m - b, mid, by omega, by omega, by omega⟩
    case' neg.refine_2.refine_2.refine_2 => obtain ⟨s0, r0, hC, e1, e2⟩ : ∃ s0 r0 : Nat, (a ≤ s0 ∧ s0 ≤ r0 ∧ r0 ≤ m ∧ r0 ≤ mid ∧ mid + m ≤ s0 + b ∧ (s0 = a ∨ s0 + b = mid + m) ∧ (r0 = m ∨ r0 = mid)) ∧ (a : Int) = (s0 : Int) ∧ (m : Int) = (r0 : Int) := ⟨a, m, by omega, by omega, by omega⟩
    all_goals
      apply GoC.sub (s' := ⟨ofL .junk [(0, .sl c 1000003 3 0 l.length), (1, .int .i64 a), (2, .int .i64 m), (3, .int .i64 b), (4, cmpF), (18, .int .i64 mid), (19, .int .i64 ((mid + m : Nat) : Int)), (20, .int .i64 s0), (21, .int .i64 r0), (22, .int .i64 (((mid + m : Nat) : Int) - 1))], ofL .free (rowO l), [1000003]⟩)
      · (refine AS.sub.mk' _ _ (lk []) rfl rfl ?_ ?_ <;> repeat' (first | exact True.intro | rfl | exact Wk.refl _ | exact Wk.of_eq (congrArg (AV.int .i64) (by omega)) | exact ⟨_, rfl, Elems.mapped (fun _ => rfl) rfl⟩ | refine And.intro ?_ ?_))
      obtain ⟨c1, c2, c3, c4, c5, c6, c7⟩ := hC
      refine GoC.cutA (G := Nat) (fun s => ⟨ofL .junk [(0, .sl c 1000003 3 0 l.length), (1, .int .i64 a), (2, .int .i64 m), (3, .int .i64 b), (4, cmpF), (18, .int .i64 mid), (19, .int .i64 ((mid + m : Nat) : Int)), (20, .int .i64 s)], ofL .free (rowO l), [1000003]⟩)
        (fun s => a ≤ s ∧ s ≤ m ∧ s ≤ mid ∧ mid + m ≤ s + b ∧ (a < s → mid + m - s < b → (l.getD (s - 1) default).stamp ≤ (l.getD (mid + m - s) default).stamp) ∧ (s < m → m < mid + m - s → (l.getD (mid + m - s - 1) default).stamp < (l.getD s default).stamp)) (fun R hR => ?_) ?_
      · refine GoC.loop (G := Nat × Nat) (fun g => ⟨ofL .junk [(0, .sl c 1000003 3 0 l.length), (1, .int .i64 a), (2, .int .i64 m), (3, .int .i64 b), (4, cmpF), (18, .int .i64 mid), (19, .int .i64 ((mid + m : Nat) : Int)), (20, .int .i64 g.1), (21, .int .i64 g.2), (22, .int .i64 (((mid + m : Nat) : Int) - 1))], ofL .free (rowO l), [1000003]⟩)
          (fun g => s0 ≤ g.1 ∧ g.1 ≤ g.2 ∧ g.2 ≤ r0 ∧ (∀ x, s0 ≤ x → x < g.1 → (l.getD x default).stamp ≤ (l.getD (mid + m - 1 - x) default).stamp) ∧ ∀ x, g.2 ≤ x → x < r0 → (l.getD (mid + m - 1 - x) default).stamp < (l.getD x default).stamp) (fun g => g.2 - g.1) (s0, r0)
          ⟨Nat.le_refl _, c2, Nat.le_refl _, fun y h1 h2 => absurd h2 (by dsimp only; omega), fun y h1 h2 => absurd h2 (by dsimp only at h1; omega)⟩ (by dsimp only; (refine AS.sub.mk' _ _ (lk []) rfl rfl ?_ ?_ <;> repeat' (first | exact True.intro | rfl | exact Wk.refl _ | exact ⟨_, rfl, Elems.mapped (fun _ => rfl) rfl⟩ | refine And.intro ?_ ?_))) ?_
        rintro ⟨s, r⟩ ⟨h1, h2, h3, h4, h5⟩ R2 hR2
        dsimp only at h1 h2 h3 h4 h5 hR2 ⊢
        repeat' (first | refine GoC.seq ?_ | refine GoC.block ?_ | refine GoC.region rfl ?_ | refine GoC.draw env_mixed ?_ | refine GoC.skip ?_ | refine GoC.exit ?_ | (refine GoC.cond_d rfl ?_ ?_ <;> intro _ <;> try contradiction) | (refine GoC.cond_n rfl ?_ ?_ <;> intro _ <;> try contradiction) | refine GoOps.nil ?_ | refine GoD.done rfl rfl (by kernel_rfl) ?_ | refine GoOps.a rfl ?_ | refine GoD.a rfl ?_ | refine GoD.p (OpL.idx_sn rfl rfl rfl rfl rfl rfl (by (first | assumption | omega))) ?_ | refine GoOps.p (OpL.add rfl rfl (by (first | assumption | omega))) ?_ | refine GoD.p (OpL.sub rfl rfl (by (first | assumption | omega))) ?_ | refine GoD.p (OpL.ldm rfl rfl (by (first | assumption | omega)) rfl (fun _ => rfl)) ?_ | refine GoD.p (OpL.call rfl rfl (cmpSt_spec _ _ (hv _ (by omega)) (hv _ (by omega))) rfl rfl) ?_ | refine GoOps.p (OpL.cvtU rfl rfl rfl (by (first | assumption | omega))) ?_ | refine GoOps.p (OpL.cvtI rfl rfl rfl (by (first | assumption | omega))) ?_ | refine GoOps.p (OpL.half rfl rfl) ?_)
        · rename_i k1 k2
          have f1 : (((s : Int) + (r : Int)) / 2).toNat = (s + r) / 2 := by omega
          have f2 : (((mid + m : Nat) : Int) - 1 - ((s : Int) + (r : Int)) / 2).toNat = mid + m - 1 - (s + r) / 2 := by omega
          rw [f1, f2] at k2
          refine hR2 ((s + r) / 2 + 1, r) _ ⟨by dsimp only; omega, by dsimp only; omega, h3, fun x h6 h7 => ?_, h5⟩ (by dsimp only; omega) (by dsimp only; (refine AS.sub.mk' _ _ (lk []) rfl rfl ?_ ?_ <;> repeat' (first | exact True.intro | rfl | exact Wk.refl _ | exact ⟨_, rfl, Elems.mapped (fun _ => rfl) rfl⟩ | refine And.intro ?_ ?_)))
          dsimp only at h7
          have g1 := hs1.st (by omega : a ≤ x) (by omega : x ≤ (s + r) / 2) (by omega)
          have g2 := hs2.st (by omega : m ≤ mid + m - 1 - (s + r) / 2) (by omega : mid + m - 1 - (s + r) / 2 ≤ mid + m - 1 - x) (by omega)
          omega
        · rename_i k1 k2
          have f1 : (((s : Int) + (r : Int)) / 2).toNat = (s + r) / 2 := by omega
          have f2 : (((mid + m : Nat) : Int) - 1 - ((s : Int) + (r : Int)) / 2).toNat = mid + m - 1 - (s + r) / 2 := by omega
          rw [f1, f2] at k2
          refine hR2 (s, (s + r) / 2) _ ⟨h1, by dsimp only; omega, by dsimp only; omega, h4, fun x h6 h7 => ?_⟩ (by dsimp only; omega) (by dsimp only; (refine AS.sub.mk' _ _ (lk []) rfl rfl ?_ ?_ <;> repeat' (first | exact True.intro | rfl | exact Wk.refl _ | exact ⟨_, rfl, Elems.mapped (fun _ => rfl) rfl⟩ | refine And.intro ?_ ?_)))
          dsimp only at h6
          have g1 := hs1.st (by omega : a ≤ (s + r) / 2) h6 (by omega)
          have g2 := hs2.st (by omega : m ≤ mid + m - 1 - x) (by omega : mid + m - 1 - x ≤ mid + m - 1 - (s + r) / 2) (by omega)
          omega
        · obtain rfl : s = r := by omega
          refine hR s _ ⟨by omega, by omega, by omega, by omega, fun k1 k2 => ?_, fun k1 k2 => ?_⟩ (by (refine AS.sub.mk' _ _ (lk []) rfl rfl ?_ ?_ <;> repeat' (first | exact True.intro | rfl | exact Wk.refl _ | exact ⟨_, rfl, Elems.mapped (fun _ => rfl) rfl⟩ | refine And.intro ?_ ?_)))
          · have := h4 (s - 1) (by omega) (by omega)
            rwa [show mid + m - 1 - (s - 1) = mid + m - s by omega] at this
          · have := h5 s (Nat.le_refl _) (by omega)
            rwa [show mid + m - 1 - s = mid + m - s - 1 by omega] at this
      · rintro s ⟨h1, h2, h3, h4, h5, h6⟩
        obtain ⟨e, he⟩ : ∃ e : Nat, e = mid + m - s := ⟨_, rfl⟩
        have ee : ((mid + m : Nat) : Int) - (s : Int) = (e : Int) := by omega
        have hP := parted (l := l) (s := s) (e := e) (mid := mid) h1 h2 (by omega) (by omega) hb (by omega) hs1 hs2 hc (by rw [he]; exact h5) (by rw [he]; exact h6)
        have hln := rotR_len l s m e
        refine GoC.seq ?_
        repeat' (first | refine GoC.region rfl ?_ | refine GoOps.nil ?_ | refine GoOps.a rfl ?_ | refine GoOps.p (OpL.sub rfl rfl (by (first | assumption | omega))) ?_)
        refine GoC.join (G := Unit) (fun _ => ⟨ofL .junk [(0, .sl c 1000003 3 0 l.length), (1, .int .i64 a), (2, .int .i64 m), (3, .int .i64 b), (4, cmpF), (18, .int .i64 mid), (20, .int .i64 s), (24, .int .i64 e)], ofL .free (rowO (rotR l s m e)), [1000003]⟩) (fun _ => True) (fun R hR => ?_) fun _ _ => ?_
        · have hrt : s < m → m < e → Spec env 112 [.sl c 1000003 3 0 l.length, .int .i64 s, .int .i64 m, .int .i64 e, cmpF] (ofL .free (rowO l)) (fun r H' => r = .tuple [] ∧ ∀ p ∈ rowO (rotR l s m e), H' p.1 = p.2) := fun k1 k2 => rotate_spec c l s m e k1 k2 (by omega) hl
          rw [ee]
          repeat' (first | refine GoC.seq ?_ | refine GoC.region rfl ?_ | refine GoC.skip ?_ | refine GoC.cond_f rfl ?_ | (refine GoC.cond_d rfl ?_ ?_ <;> intro _ <;> try contradiction) | refine GoOps.nil ?_ | refine GoOps.a rfl ?_ | refine GoOps.u rfl rfl rfl rfl ?_ | refine GoOps.gs rfl rfl rfl rfl ?_ | (refine GoOps.sd rfl rfl ?_ ?_ <;> intro _ <;> try contradiction))
          · rename_i k1 k2
            refine GoOps.m (OpL.callO (lk []) rfl rfl (hrt (by omega) (by omega)) rfl rfl ⟨⟨_, rfl, Elems.mapped (fun _ => rfl) rfl⟩, trivial⟩ (by rfl) (by rfl)
              (post := rowO (rotR l s m e)) (by exact ⟨⟨rfl, ⟨_, rfl, OutE.mapped fun _ => rfl⟩, .inl rfl⟩, trivial⟩) (by rfl) (by rfl)) ?_
            repeat' (first | refine GoOps.nil ?_)
            exact hR () _ trivial (by (refine AS.sub.mk' _ _ (lk []) rfl rfl ?_ ?_ <;> repeat' (first | exact True.intro | rfl | exact Wk.refl _ | exact ⟨_, rfl, Elems.mapped (fun _ => rfl) rfl⟩ | refine And.intro ?_ ?_)))
          · rename_i k1 k2
            refine hR () _ trivial ?_
            rw [show e = m by omega, rotR_nil _ _ _ h2]
            (refine AS.sub.mk' _ _ (lk []) rfl rfl ?_ ?_ <;> repeat' (first | exact True.intro | rfl | exact Wk.refl _ | exact ⟨_, rfl, Elems.mapped (fun _ => rfl) rfl⟩ | refine And.intro ?_ ?_))
          · rename_i k1
            refine hR () _ trivial ?_
            rw [show s = m by omega, rotR_one]
            (refine AS.sub.mk' _ _ (lk []) rfl rfl ?_ ?_ <;> repeat' (first | exact True.intro | rfl | exact Wk.refl _ | exact ⟨_, rfl, Elems.mapped (fun _ => rfl) rfl⟩ | refine And.intro ?_ ?_))
        · have hv1 : StB (rotR l s m e) := (⟨hP.len, hP.out, hP.in1⟩ : (rotR l s m e).length = l.length ∧ _ ∧ _).elim fun k1 k2 x hx => by
            by_cases c : a ≤ x ∧ x < b
            · obtain ⟨y, q1, q2, q3⟩ := k2.2 x c.1 c.2
              rw [q3]; exact hv y (by omega)
            · rw [k2.1 x (by omega)]; exact hv x (by omega)
          generalize rotR l s m e = l1 at *
          refine GoC.join (G := List Defect) (fun l2 => ⟨ofL .junk [(0, .sl c 1000003 3 0 l.length), (1, .int .i64 a), (2, .int .i64 m), (3, .int .i64 b), (4, cmpF), (18, .int .i64 mid), (20, .int .i64 s), (24, .int .i64 e)], ofL .free (rowO l2), [1000003]⟩) (fun l2 => Merged l1 l2 a mid) (fun R hR => ?_) fun l2 hl2 => ?_
          · rw [← hln]
            repeat' (first | refine GoC.seq ?_ | refine GoC.region rfl ?_ | refine GoC.skip ?_ | refine GoC.cond_f rfl ?_ | (refine GoC.cond_d rfl ?_ ?_ <;> intro _ <;> try contradiction) | refine GoOps.nil ?_ | refine GoOps.a rfl ?_ | refine GoOps.u rfl rfl rfl rfl ?_ | refine GoOps.gs rfl rfl rfl rfl ?_ | (refine GoOps.sd rfl rfl ?_ ?_ <;> intro _ <;> try contradiction))
            · rename_i k1 k2
              refine GoOps.callZ (ζ := List Defect) (φ := fun l' => Merged l1 l' a mid) (lk []) rfl rfl (ih c l1 a s mid (by omega) (by omega) (by omega) (by omega) (by omega) hv1 hP.s1 hP.s2 hP.c1) rfl rfl (by exact ⟨⟨_, rfl, Elems.mapped (fun _ => rfl) rfl⟩, trivial⟩) (by rfl) (by exact fun _ _ => rfl) (by exact fun _ _ => rfl)
                (post := fun l' => rowO l') (by exact fun l' _ => ⟨⟨rfl, ⟨_, rfl, OutE.mapped fun _ => rfl⟩, .inl rfl⟩, trivial⟩) (by exact fun _ _ => rfl) (by exact fun _ _ => rfl) fun l2 hl2 => ?_
              repeat' (first | refine GoOps.nil ?_)
              refine hR l2 _ hl2 ?_
              rw [← hln]
              (refine AS.sub.mk' _ _ (lk []) rfl rfl ?_ ?_ <;> repeat' (first | exact True.intro | rfl | exact Wk.refl _ | exact ⟨_, rfl, Elems.mapped (fun _ => rfl) rfl⟩ | refine And.intro ?_ ?_))
            · rename_i k1 k2
              refine hR l1 _ (.refl (by rw [show mid = s by omega]; exact hP.s1)) ?_
              rw [← hln]
              (refine AS.sub.mk' _ _ (lk []) rfl rfl ?_ ?_ <;> repeat' (first | exact True.intro | rfl | exact Wk.refl _ | exact ⟨_, rfl, Elems.mapped (fun _ => rfl) rfl⟩ | refine And.intro ?_ ?_))
            · rename_i k1
              refine hR l1 _ (.refl (by have := hP.s2; rwa [show s = a by omega] at this)) ?_
              rw [← hln]
              (refine AS.sub.mk' _ _ (lk []) rfl rfl ?_ ?_ <;> repeat' (first | exact True.intro | rfl | exact Wk.refl _ | exact ⟨_, rfl, Elems.mapped (fun _ => rfl) rfl⟩ | refine And.intro ?_ ?_))
          · obtain ⟨n1, n2, n3⟩ := hP.next hl2
            have n2 := n2.resolve_right (by omega)
            have n3 := n3.resolve_right (by omega)
            have hln2 : l2.length = l.length := by rw [hl2.len, hln]
            have hv2 := hl2.stB (by omega) hv1
            have fin : ∀ l3, Merged l2 l3 mid b → Merged l l3 a b := fun l3 h => hP.merged (by omega) (by omega) hl2 h
            rw [← hln2]
            repeat' (first | refine GoC.seq ?_ | refine GoC.region rfl ?_ | refine GoC.skip ?_ | refine GoC.cond_f rfl ?_ | (refine GoC.cond_d rfl ?_ ?_ <;> intro _ <;> try contradiction) | refine GoOps.nil ?_ | refine GoOps.a rfl ?_ | refine GoOps.u rfl rfl rfl rfl ?_ | refine GoOps.gs rfl rfl rfl rfl ?_ | (refine GoOps.sd rfl rfl ?_ ?_ <;> intro _ <;> try contradiction))
            · rename_i k1 k2
              refine GoOps.callZ (ζ := List Defect) (φ := fun l' => Merged l2 l' mid b) (lk []) rfl rfl (ih c l2 mid e b (by omega) (by omega) (by omega) (by omega) (by omega) hv2 n1 n2 n3) rfl rfl (by exact ⟨⟨_, rfl, Elems.mapped (fun _ => rfl) rfl⟩, trivial⟩) (by rfl) (by exact fun _ _ => rfl) (by exact fun _ _ => rfl)
                (post := fun l' => rowO l') (by exact fun l' _ => ⟨⟨rfl, ⟨_, rfl, OutE.mapped fun _ => rfl⟩, .inl rfl⟩, trivial⟩) (by exact fun _ _ => rfl) (by exact fun _ _ => rfl) fun l3 hl3 => ?_
              repeat' (first | refine GoOps.nil ?_)
              try simp only [thenA, inBlockA, beq_self_eq_true, cond_true]
              refine FnPost.by (.inl rfl) (AS.sub.refl _) RetOK.nil ⟨l3, fin l3 hl3, rfl, fun p hp => ?_⟩
              simp only [List.mem_cons, List.not_mem_nil, or_false] at hp
              subst hp; rfl
            · rename_i k1 k2
              try simp only [thenA, inBlockA, beq_self_eq_true, cond_true]
              refine FnPost.by (.inl rfl) (AS.sub.refl _) RetOK.nil ⟨l2, fin l2 (.refl (by rw [show b = e by omega]; exact n1)), rfl, fun p hp => ?_⟩
              simp only [List.mem_cons, List.not_mem_nil, or_false] at hp
              subst hp; rfl
            · rename_i k1
              try simp only [thenA, inBlockA, beq_self_eq_true, cond_true]
              refine FnPost.by (.inl rfl) (AS.sub.refl _) RetOK.nil ⟨l2, fin l2 (.refl (by have := n2; rwa [show e = mid by omega] at this)), rfl, fun p hp => ?_⟩
              simp only [List.mem_cons, List.not_mem_nil, or_false] at hp
              subst hp; rfl
end Go.Proofs.YtfbjoamdkieamaaGreat.AM
end

section
set_option linter.unusedSimpArgs false
set_option linter.unusedVariables false
set_option maxHeartbeats 8000000
namespace Go.Proofs.YtfbjoamdkieamaaGreat.AM
open Go Go.Proofs

/-- In order of their Ids, from a to b. -/
def IdInc (l : List Defect) (a b : Nat) : Prop := ∀ x y, a ≤ x → x < y → y < b → (l.getD x default).id < (l.getD y default).id
theorem StB_rot {l : List Defect} (h : StB l) {s m e : Nat} (hs : s ≤ m) (he : m ≤ e) (hl : e ≤ l.length) : StB (rotR l s m e) := by
  intro x hx
  rw [rotR_len] at hx
  rw [rot_at hs he hl]
  repeat' split
  all_goals exact h _ (by omega)
theorem Merged.trans {l l1 l2 : List Defect} {a i : Nat} (h : Merged l l1 a i) (hai : a ≤ i) (h' : Merged l1 l2 a (i + 1)) : Merged l l2 a (i + 1) where
  len := by rw [h'.len, h.len]
  out x hx := by rw [h'.out x hx, h.out x (by omega)]
  in_ x h1 h2 := by
    obtain ⟨y, h3, h4, h5⟩ := h'.in_ x h1 h2
    by_cases c : y < i
    · obtain ⟨z, h6, h7, h8⟩ := h.in_ y h3 c
      exact ⟨z, h6, by omega, by rw [h5, h8]⟩
    · exact ⟨y, h3, h4, by rw [h5, h.out y (by omega)]⟩
  sort := h'.sort
theorem Merged.cross {l l1 : List Defect} {a b i : Nat} (h : Merged l l1 a i) (hid : IdInc l a b) (hi : i < b) : CrossR l1 a i (i + 1) := by
  intro x y h1 h2 h3 h4
  obtain ⟨z, h5, h6, h7⟩ := h.in_ x h1 h2
  obtain rfl : y = i := by omega
  rw [h7, h.out y (.inr (Nat.le_refl _))]
  exact hid z y h5 h6 hi

theorem insSort_spec (c : Bool) (l : List Defect) (a b : Nat) (hab : a ≤ b) (hb : b ≤ l.length) (hl : l.length ≤ 1000) (hv : StB l) (hid : IdInc l a b) :
    Spec env 90 [.sl c 1000003 3 0 l.length, .int .i64 a, .int .i64 b, cmpF] (ofL .free (rowO l)) (fun r H' => ∃ l', Merged l l' a b ∧ r = .tuple [] ∧ ∀ p ∈ rowO l', H' p.1 = p.2) := by
  refine Spec.introR (nt := _) (rs := []) Tryz.func90 rfl rfl rfl rfl rfl [1000003] (fun i h => ofL_keys _ i h) fun X hX => ?_
  repeat' (first | refine GoC.seq ?_ | refine GoC.block ?_ | refine GoC.region rfl ?_ | refine GoOps.nil ?_ | refine GoOps.a rfl ?_ | refine GoOps.p (OpL.add rfl rfl (by (first | assumption | omega))) ?_)
  refine GoC.loop (G := Nat × List Defect) (fun g => ⟨ofL .junk [(0, .sl c 1000003 3 0 l.length), (1, .int .i64 a), (2, .int .i64 b), (3, cmpF), (8, .int .i64 g.1)], ofL .free (rowO g.2), [1000003]⟩)
    (fun g => a + 1 ≤ g.1 ∧ (g.1 ≤ b ∨ (g.1 = a + 1 ∧ g.2 = l ∧ b = a)) ∧ Merged l g.2 a g.1) (fun g => b - g.1) (a + 1, l)
    ⟨Nat.le_refl _, by dsimp only; by_cases h : a = b; exact .inr ⟨rfl, rfl, h.symm⟩; exact .inl (by omega), .refl fun x y _ _ _ => by omega⟩ (by dsimp only; (refine AS.sub.mk' _ _ (lk []) rfl rfl ?_ ?_ <;> repeat' (first | exact True.intro | rfl | exact Wk.refl _ | exact ⟨_, rfl, Elems.mapped (fun _ => rfl) rfl⟩ | refine And.intro ?_ ?_))) ?_
  rintro ⟨i, L⟩ ⟨h1, h2, h3⟩ R hR
  dsimp only at h1 h2 h3 hR ⊢
  have hln := h3.len
  have hvL : b = a ∨ StB L := by
    rcases h2 with h2 | ⟨_, _, h2⟩
    · exact .inr (h3.stB (by omega) hv)
    · exact .inl h2
  repeat' (first | refine GoC.seq ?_ | refine GoC.block ?_ | refine GoC.region rfl ?_ | refine GoC.skip ?_ | refine GoC.exit ?_ | (refine GoC.cond_d rfl ?_ ?_ <;> intro _ <;> try contradiction) | refine GoOps.nil ?_ | refine GoOps.a rfl ?_)
  · rename_i k1
    have hvL := hvL.resolve_left (by omega)
    refine GoC.loop (G := Nat) (fun j => ⟨ofL .junk [(0, .sl c 1000003 3 0 l.length), (1, .int .i64 a), (2, .int .i64 b), (3, cmpF), (8, .int .i64 i), (9, .int .i64 j)], ofL .free (rowO (rotR L j i (i + 1))), [1000003]⟩)
      (fun j => a ≤ j ∧ j ≤ i ∧ ∀ x, j ≤ x → x < i → (L.getD i default).stamp < (L.getD x default).stamp) (fun j => j) i
      ⟨by omega, Nat.le_refl _, fun x h4 h5 => by omega⟩ (by rw [rotR_one]; (refine AS.sub.mk' _ _ (lk []) rfl rfl ?_ ?_ <;> repeat' (first | exact True.intro | rfl | exact Wk.refl _ | exact ⟨_, rfl, Elems.mapped (fun _ => rfl) rfl⟩ | refine And.intro ?_ ?_))) ?_
    rintro j ⟨h4, h5, h6⟩ R2 hR2
    have hlr := rotR_len L j i (i + 1)
    have hr1 : (rotR L j i (i + 1)).getD j default = L.getD i default := by
      rw [rot_at h5 (by omega) (by omega)]
      repeat' split
      all_goals first | rfl | (exfalso; omega) | (congr 1; omega)
    have hvR := StB_rot hvL h5 (by omega : i ≤ i + 1) (by omega)
    repeat' (first | refine GoC.seq ?_ | refine GoC.block ?_ | refine GoC.region rfl ?_ | refine GoC.draw env_mixed ?_ | refine GoC.skip ?_ | refine GoC.exit ?_ | refine GoC.cond_f rfl ?_ | (refine GoC.cond_d rfl ?_ ?_ <;> intro _ <;> try contradiction) | refine GoOps.nil ?_ | refine GoD.done rfl rfl (by kernel_rfl) ?_ | refine GoOps.a rfl ?_ | refine GoD.a rfl ?_ | refine GoD.ga rfl rfl rfl rfl rfl ?_ | refine GoD.gs rfl rfl rfl rfl ?_ | refine GoD.p (OpL.idx_s rfl rfl (by with_reducible exact rfl) rfl rfl rfl rfl rfl (by (first | assumption | omega))) ?_ | refine GoD.gp rfl rfl rfl rfl (OpL.idx_s rfl rfl (by with_reducible exact rfl) rfl rfl rfl rfl rfl (by (first | assumption | omega))) ?_ | refine GoD.p (OpL.idx_sn rfl rfl rfl rfl rfl rfl (by (first | assumption | omega))) ?_ | refine GoD.gp rfl rfl rfl rfl (OpL.idx_sn rfl rfl rfl rfl rfl rfl (by (first | assumption | omega))) ?_ | refine GoOps.p (OpL.add rfl rfl (by (first | assumption | omega))) ?_ | refine GoOps.p (OpL.sub rfl rfl (by (first | assumption | omega))) ?_ | refine GoD.p (OpL.sub rfl rfl (by (first | assumption | omega))) ?_ | refine GoD.gp rfl rfl rfl rfl (OpL.sub rfl rfl (by (first | assumption | omega))) ?_ | refine GoD.p (OpL.ldm rfl rfl (by (first | assumption | omega)) rfl (fun _ => rfl)) ?_ | refine GoD.gp rfl rfl rfl rfl (OpL.ldm rfl rfl (by (first | assumption | omega)) rfl (fun _ => rfl)) ?_ | refine GoD.n (OpL.stm rfl rfl rfl (by (first | assumption | omega)) (fun _ => rfl) (fun _ => rfl) rfl) ?_ | refine GoD.gp rfl rfl rfl rfl (OpL.call rfl rfl (cmpSt_spec _ _ (hvR _ (by omega)) (hvR _ (by omega))) rfl rfl) ?_ | (refine GoD.sd rfl rfl ?_ ?_ <;> intro _ <;> try contradiction) | refine GoD.n (OpL.stm rfl rfl rfl (by simp only [List.length_set]; omega) (fun _ => rfl) (fun _ => rfl) rfl) ?_)
    · rename_i k2 k3
      have hr2 : (rotR L j i (i + 1)).getD (j - 1) default = L.getD (j - 1) default := by rw [rot_at h5 (by omega) (by omega), if_neg (by omega), if_neg (by omega)]
      have e : ((j : Int) - 1).toNat = j - 1 := by omega
      rw [Nat.zero_add, e, hr1, hr2] at k3
      refine hR2 (j - 1) _ ⟨by omega, by omega, fun x h7 h8 => ?_⟩ (by omega) ?_
      · by_cases c : x = j - 1
        · subst c; omega
        · exact h6 x (by omega) h8
      · rw [← rotR_down (by omega) h5 (by omega)]
        try simp only [Nat.zero_add, e]
        (refine AS.sub.mk' _ _ (lk []) rfl rfl ?_ ?_ <;> repeat' (first | exact True.intro | rfl | exact Wk.refl _ | exact Wk.of_eq (congrArg (AV.int .i64) (by omega)) | exact ⟨_, rfl, Elems.mapped (fun _ => rfl) rfl⟩ | refine And.intro ?_ ?_))
    · rename_i k2 k3
      have hr2 : (rotR L j i (i + 1)).getD (j - 1) default = L.getD (j - 1) default := by rw [rot_at h5 (by omega) (by omega), if_neg (by omega), if_neg (by omega)]
      have e : ((j : Int) - 1).toNat = j - 1 := by omega
      rw [Nat.zero_add, e, hr1, hr2] at k3
      have hm := merge_last h4 h5 (by omega) h3.sort (h3.cross hid (by omega)) (fun x h7 h8 => by have := h3.sort.st h7 (by omega : x ≤ j - 1) (by omega); omega) h6
      exact hR (i + 1, rotR L j i (i + 1)) _ ⟨by dsimp only; omega, .inl (by dsimp only; omega), h3.trans (by omega) hm⟩ (by dsimp only; omega) (by dsimp only; (refine AS.sub.mk' _ _ (lk []) rfl rfl ?_ ?_ <;> repeat' (first | exact True.intro | rfl | exact Wk.refl _ | exact ⟨_, rfl, Elems.mapped (fun _ => rfl) rfl⟩ | refine And.intro ?_ ?_)))
    · rename_i k2
      have hm := merge_last h4 h5 (by omega) h3.sort (h3.cross hid (by omega)) (fun x h7 h8 => by omega) h6
      exact hR (i + 1, rotR L j i (i + 1)) _ ⟨by dsimp only; omega, .inl (by dsimp only; omega), h3.trans (by omega) hm⟩ (by dsimp only; omega) (by dsimp only; (refine AS.sub.mk' _ _ (lk []) rfl rfl ?_ ?_ <;> repeat' (first | exact True.intro | rfl | exact Wk.refl _ | exact ⟨_, rfl, Elems.mapped (fun _ => rfl) rfl⟩ | refine And.intro ?_ ?_)))
  · rename_i k1
    try simp only [thenA, inBlockA, beq_self_eq_true, cond_true]
    refine FnPost.by (.inl rfl) (AS.sub.refl _) RetOK.nil ⟨L, ?_, rfl, fun p hp => ?_⟩
    · rcases h2 with h2 | ⟨h2, h4, h5⟩
      · obtain rfl : i = b := by omega
        exact h3
      · rw [h4, h5]; exact .refl fun x y _ _ _ => by omega
    · simp only [List.mem_cons, List.not_mem_nil, or_false] at hp
      subst hp; rfl
end Go.Proofs.YtfbjoamdkieamaaGreat.AM
end

section
set_option linter.unusedSimpArgs false
set_option linter.unusedVariables false
set_option maxHeartbeats 8000000
namespace Go.Proofs.YtfbjoamdkieamaaGreat.AM
open Go Go.Proofs

def le2 (x y : Defect) : Bool := decide (x.stamp < y.stamp ∨ (x.stamp = y.stamp ∧ x.id ≤ y.id))
/-- By Stamp, then by Id. -/
def stSort (l : List Defect) : List Defect := l.mergeSort le2
theorem sub_perm : ∀ (l' l : List Defect), l'.Nodup → (∀ x ∈ l', x ∈ l) → l.length ≤ l'.length → l'.Perm l
  | [], l, _, _, h => by rw [List.eq_nil_of_length_eq_zero (Nat.le_zero.1 h)]
  | x :: r, l, hn, hs, hl => by
    obtain ⟨h1, h2⟩ := List.nodup_cons.1 hn
    have hx : x ∈ l := hs x (by simp)
    have h3 := List.perm_cons_erase hx
    have h4 := h3.length_eq
    simp only [List.length_cons] at h4 hl
    have ih := sub_perm r (l.erase x) h2 (fun y hy => by
      have := (h3.mem_iff (a := y)).1 (hs y (by simp [hy]))
      rcases List.mem_cons.1 this with h5 | h5
      · exact absurd (h5 ▸ hy) h1
      · exact h5) (by omega)
    exact (ih.cons x).trans h3.symm
theorem stSort_perm (l : List Defect) : (stSort l).Perm l := List.mergeSort_perm l le2
theorem stSort_sorted (l : List Defect) : (stSort l).Pairwise (fun x y => le2 x y) :=
  List.pairwise_mergeSort (fun x y z h h' => by simp only [le2, decide_eq_true_eq] at *; omega) (fun x y => by simp only [le2, Bool.or_eq_true, decide_eq_true_eq]; omega) l
/-- What is sorted so, of messages whose Ids are not alike, is the one row that is. -/
theorem stSort_eq {l l' : List Defect} (hp : l'.Perm l) (hs : l'.Pairwise lt2) : l' = stSort l := by
  have h1 := hp.trans (stSort_perm l).symm
  have h2 : (stSort l).Pairwise lt2 := by
    have hne : l'.Pairwise (fun x y => ¬ (x.stamp = y.stamp ∧ x.id = y.id)) := hs.imp fun h => by unfold lt2 at h; omega
    have hne2 : (stSort l).Pairwise (fun x y => ¬ (x.stamp = y.stamp ∧ x.id = y.id)) := (List.Perm.pairwise_iff (fun {a b} h => by omega) h1).1 hne
    refine (List.pairwise_and_iff.2 ⟨stSort_sorted l, hne2⟩).imp fun ⟨h, h'⟩ => ?_
    simp only [le2, decide_eq_true_eq] at h
    unfold lt2; omega
  exact List.Perm.eq_of_pairwise (fun a b _ _ h h' => by unfold lt2 at *; omega) hs h2 h1
theorem Merged.stSort {l l' : List Defect} (h : Merged l l' 0 l.length) : l' = AM.stSort l := by
  have hs : l'.Pairwise lt2 := by
    rw [List.pairwise_iff_getElem]
    intro i j hi hj hij
    have := h.sort i j (Nat.zero_le _) hij (by rw [← h.len]; exact hj)
    rwa [gd hi, gd hj] at this
  refine stSort_eq (sub_perm _ _ (hs.imp fun {a b} h he => by subst he; unfold lt2 at h; omega) (fun x hx => ?_) (by rw [h.len]; exact Nat.le_refl _)) hs
  obtain ⟨i, hi, rfl⟩ := List.mem_iff_getElem.1 hx
  obtain ⟨y, _, h2, h3⟩ := h.in_ i (Nat.zero_le _) (by rw [← h.len]; exact hi)
  rw [gd hi, gd h2] at h3
  rw [h3]; exact List.getElem_mem h2

theorem stable_spec (c : Bool) (l : List Defect) (hN : l.length ≤ 39) (hv : StB l) (hid : IdInc l 0 l.length) :
    Spec env 72 [.sl c 1000003 3 0 l.length, .int .i64 l.length, cmpF] (ofL .free (rowO l)) (fun r H' => ∃ l', Merged l l' 0 l.length ∧ r = .tuple [] ∧ ∀ p ∈ rowO l', H' p.1 = p.2) := by
  refine Spec.introR (nt := _) (rs := []) Tryz.func72 rfl rfl rfl rfl rfl [1000003] (fun i h => ofL_keys _ i h) fun X hX => ?_
  repeat' (first | refine GoC.seq ?_ | refine GoC.block ?_ | refine GoC.region rfl ?_ | refine GoOps.nil ?_ | refine GoOps.a rfl ?_)
  refine GoC.cutA (G := Nat × List Defect) (fun g => ⟨ofL .junk [(0, .sl c 1000003 3 0 l.length), (1, .int .i64 l.length), (2, cmpF), (6, .int .i64 20), (7, .int .i64 g.1)], ofL .free (rowO g.2), [1000003]⟩)
    (fun g => Merged l g.2 0 g.1 ∧ (g.1 = 0 ∨ g.1 = 20) ∧ g.1 ≤ l.length ∧ (l.length < 20 → g.1 = 0) ∧ (20 ≤ l.length → g.1 = 20)) (fun R hR => ?_) ?_
  · refine GoC.loop (G := Nat × List Defect) (fun g => ⟨ofL .junk [(0, .sl c 1000003 3 0 l.length), (1, .int .i64 l.length), (2, cmpF), (6, .int .i64 20), (7, .int .i64 g.1), (8, .int .i64 ((g.1 : Int) + 20))], ofL .free (rowO g.2), [1000003]⟩)
      (fun g => Merged l g.2 0 g.1 ∧ (g.1 = 0 ∨ g.1 = 20) ∧ g.1 ≤ l.length) (fun g => 40 - g.1) (0, l) ⟨.refl fun x y _ _ h => by dsimp only at h; omega, .inl rfl, Nat.zero_le _⟩ (by dsimp only; (refine AS.sub.mk' _ _ (lk []) rfl rfl ?_ ?_ <;> repeat' (first | exact True.intro | rfl | exact Wk.refl _ | exact ⟨_, rfl, Elems.mapped (fun _ => rfl) rfl⟩ | refine And.intro ?_ ?_))) ?_
    rintro ⟨k, L⟩ ⟨h1, h2, h3⟩ R2 hR2
    dsimp only at h1 h2 h3 hR2 ⊢
    have hln := h1.len
    rw [← hln]
    repeat' (first | refine GoC.seq ?_ | refine GoC.block ?_ | refine GoC.region rfl ?_ | refine GoC.skip ?_ | refine GoC.exit ?_ | (refine GoC.cond_d rfl ?_ ?_ <;> intro _ <;> try contradiction) | refine GoOps.nil ?_ | refine GoOps.a rfl ?_)
    · rename_i k1
      obtain rfl : k = 0 := by omega
      obtain rfl : L = l := ext_getD h1.len fun x hx => h1.out x (.inr (Nat.zero_le _))
      have e : (((0 : Nat) : Int) + 20) = ((20 : Nat) : Int) := rfl
      refine GoOps.callZ (ζ := List Defect) (φ := fun l' => Merged L l' 0 20) (lk []) rfl rfl (insSort_spec c L 0 20 (by omega) (by omega) (by omega) hv fun x y h4 h5 h6 => hid x y h4 h5 (by omega)) rfl rfl (by exact ⟨⟨_, rfl, Elems.mapped (fun _ => rfl) rfl⟩, trivial⟩) (by rfl) (by exact fun _ _ => rfl) (by exact fun _ _ => rfl)
        (post := fun l' => rowO l') (by exact fun l' _ => ⟨⟨rfl, ⟨_, rfl, OutE.mapped fun _ => rfl⟩, .inl rfl⟩, trivial⟩) (by exact fun _ _ => rfl) (by exact fun _ _ => rfl) fun L1 hL1 => ?_
      repeat' (first | refine GoC.seq ?_ | refine GoC.region rfl ?_ | refine GoOps.nil ?_ | refine GoOps.a rfl ?_ | refine GoOps.p (OpL.add rfl rfl (by (first | assumption | omega))) ?_)
      exact hR2 (20, L1) _ ⟨hL1, .inr rfl, by dsimp only; omega⟩ (by dsimp only; omega) (by dsimp only; (refine AS.sub.mk' _ _ (lk []) rfl rfl ?_ ?_ <;> repeat' (first | exact True.intro | rfl | exact Wk.refl _ | exact ⟨_, rfl, Elems.mapped (fun _ => rfl) rfl⟩ | refine And.intro ?_ ?_)))
    · rename_i k1
      exact hR (k, L) _ ⟨h1, h2, h3, fun h => by dsimp only; omega, fun h => by dsimp only; omega⟩ (by rw [← hln]; (refine AS.sub.mk' _ _ (lk []) rfl rfl ?_ ?_ <;> repeat' (first | exact True.intro | rfl | exact Wk.refl _ | exact ⟨_, rfl, Elems.mapped (fun _ => rfl) rfl⟩ | refine And.intro ?_ ?_)))
  · rintro ⟨k, L⟩ ⟨h1, h2, h3, h4, h5⟩
    dsimp only at h1 h2 h3 h4 h5 ⊢
    have hln := h1.len
    have hvL := h1.stB h3 hv
    have hidL : IdInc L k L.length := fun x y h6 h7 h8 => by rw [h1.out x (.inr h6), h1.out y (.inr (by omega))]; exact hid x y (Nat.zero_le _) h7 (by omega)
    rw [← hln]
    repeat' (first | refine GoC.seq ?_ | refine GoC.region rfl ?_ | refine GoOps.a rfl ?_)
    refine GoOps.callZ (ζ := List Defect) (φ := fun l' => Merged L l' k L.length) (lk []) rfl rfl (insSort_spec c L k L.length (by omega) (Nat.le_refl _) (by omega) hvL hidL) rfl rfl (by exact ⟨⟨_, rfl, Elems.mapped (fun _ => rfl) rfl⟩, trivial⟩) (by rfl) (by exact fun _ _ => rfl) (by exact fun _ _ => rfl)
        (post := fun l' => rowO l') (by exact fun l' _ => ⟨⟨rfl, ⟨_, rfl, OutE.mapped fun _ => rfl⟩, .inl rfl⟩, trivial⟩) (by exact fun _ _ => rfl) (by exact fun _ _ => rfl) fun L2 hL2 => ?_
    have hln2 := hL2.len
    have hvL2 := hL2.stB (Nat.le_refl _) hvL
    repeat' (first | refine GoC.block ?_ | refine GoOps.nil ?_)
    have hfin : L.length ≤ 20 → Merged l L2 0 L.length := by
      intro h
      by_cases c : L.length < 20
      · have hk := h4 (by omega)
        subst hk
        obtain rfl : L = l := ext_getD h1.len fun x hx => h1.out x (.inr (Nat.zero_le _))
        exact hL2
      · have hk := h5 (by omega)
        subst hk
        have e2 : L2 = L := ext_getD hL2.len fun x hx => hL2.out x (by omega)
        rw [e2, show L.length = 20 by omega]; exact h1
    refine GoC.loop (G := Nat × List Defect) (fun g => ⟨ofL .junk [(0, .sl c 1000003 3 0 L.length), (1, .int .i64 L.length), (2, cmpF), (6, .int .i64 g.1)], ofL .free (rowO g.2), [1000003]⟩)
      (fun g => (g.1 = 20 ∧ g.2 = L2) ∨ (g.1 = 40 ∧ Merged l g.2 0 L.length)) (fun g => 40 - g.1) (20, L2) (.inl ⟨rfl, rfl⟩) (by dsimp only; (refine AS.sub.mk' _ _ (lk []) rfl rfl ?_ ?_ <;> repeat' (first | exact True.intro | rfl | exact Wk.refl _ | exact ⟨_, rfl, Elems.mapped (fun _ => rfl) rfl⟩ | refine And.intro ?_ ?_))) ?_
    rintro ⟨q, L3⟩ hq R hR
    dsimp only at hq hR ⊢
    rcases hq with ⟨rfl, rfl⟩ | ⟨rfl, hq⟩
    · repeat' (first | refine GoC.seq ?_ | refine GoC.block ?_ | refine GoC.region rfl ?_ | refine GoC.skip ?_ | refine GoC.exit ?_ | (refine GoC.cond_d rfl ?_ ?_ <;> intro _ <;> try contradiction) | refine GoOps.nil ?_ | refine GoOps.a rfl ?_ | refine GoOps.p (OpL.mul rfl rfl (by (first | assumption | omega))) ?_)
      · rename_i k1
        have hk := h5 (by omega)
        subst hk
        have o1 : ∀ x, x < 20 → L3.getD x default = L.getD x default := fun x hx => hL2.out x (.inl hx)
        have o2 : ∀ x, 20 ≤ x → x < L.length → ∃ y, 20 ≤ y ∧ y < L.length ∧ L3.getD x default = l.getD y default := fun x h6 h7 => by
          obtain ⟨y, h8, h9, h10⟩ := hL2.in_ x h6 h7
          exact ⟨y, h8, h9, by rw [h10, h1.out y (.inr h8)]⟩
        have o3 : ∀ x, x < 20 → ∃ y, y < 20 ∧ L3.getD x default = l.getD y default := fun x hx => by
          obtain ⟨y, h8, h9, h10⟩ := h1.in_ x (Nat.zero_le _) hx
          exact ⟨y, h9, by rw [o1 x hx, h10]⟩
        have hc : CrossR L3 0 20 L.length := fun x y h6 h7 h8 h9 => by
          obtain ⟨z, p1, p2⟩ := o3 x h7
          obtain ⟨u, p3, p4, p5⟩ := o2 y h8 h9
          rw [p2, p5]; exact hid z u (Nat.zero_le _) (by omega) (by omega)
        have hm := symMerge_spec L.length c L3 0 20 L.length (by omega) (by omega) (by omega) (by omega) (by omega) hvL2 (h1.sort.congr fun x _ hx => o1 x hx) hL2.sort hc
        rw [hln2] at hm
        refine GoC.loop (G := Unit) (fun _ => ⟨ofL .junk [(0, .sl c 1000003 3 0 L.length), (1, .int .i64 L.length), (2, cmpF), (6, .int .i64 20), (7, .int .i64 0), (8, .int .i64 40)], ofL .free (rowO L3), [1000003]⟩) (fun _ => True) (fun _ => 0) () trivial (by (refine AS.sub.mk' _ _ (lk []) rfl rfl ?_ ?_ <;> repeat' (first | exact True.intro | rfl | exact Wk.refl _ | exact ⟨_, rfl, Elems.mapped (fun _ => rfl) rfl⟩ | refine And.intro ?_ ?_))) ?_
        intro _ _ R2 hR2
        repeat' (first | refine GoC.seq ?_ | refine GoC.block ?_ | refine GoC.region rfl ?_ | refine GoC.skip ?_ | refine GoC.exit ?_ | (refine GoC.cond_d rfl ?_ ?_ <;> intro _ <;> try contradiction) | refine GoOps.nil ?_ | refine GoOps.a rfl ?_ | refine GoOps.p (OpL.add rfl rfl (by (first | assumption | omega))) ?_)
        · exfalso; omega
        · refine GoOps.callZ (ζ := List Defect) (φ := fun l' => Merged L3 l' 0 L.length) (lk []) rfl rfl hm rfl rfl (by exact ⟨⟨_, rfl, Elems.mapped (fun _ => rfl) rfl⟩, trivial⟩) (by rfl) (by exact fun _ _ => rfl) (by exact fun _ _ => rfl)
            (post := fun l' => rowO l') (by exact fun l' _ => ⟨⟨rfl, ⟨_, rfl, OutE.mapped fun _ => rfl⟩, .inl rfl⟩, trivial⟩) (by exact fun _ _ => rfl) (by exact fun _ _ => rfl) fun L4 hL4 => ?_
          repeat' (first | refine GoC.region rfl ?_ | refine GoOps.nil ?_ | refine GoOps.a rfl ?_ | refine GoOps.p (OpL.mul rfl rfl (by (first | assumption | omega))) ?_)
          refine hR (40, L4) _ (.inr ⟨rfl, ?_⟩) (by dsimp only; omega) (by dsimp only; (refine AS.sub.mk' _ _ (lk []) rfl rfl ?_ ?_ <;> repeat' (first | exact True.intro | rfl | exact Wk.refl _ | exact ⟨_, rfl, Elems.mapped (fun _ => rfl) rfl⟩ | refine And.intro ?_ ?_)))
          refine ⟨by rw [hL4.len, hln2, hln], fun x hx => ?_, fun x h6 h7 => ?_, hL4.sort⟩
          · rw [hL4.out x hx, hL2.out x (by omega), h1.out x (by omega)]
          · obtain ⟨y, p1, p2, p3⟩ := hL4.in_ x h6 h7
            by_cases cy : y < 20
            · obtain ⟨z, p4, p5⟩ := o3 y cy
              exact ⟨z, by omega, by omega, by rw [p3, p5]⟩
            · obtain ⟨z, p4, p5, p6⟩ := o2 y (by omega) p2
              exact ⟨z, by omega, p5, by rw [p3, p6]⟩
      · rename_i k1
        try simp only [thenA, inBlockA, beq_self_eq_true, cond_true]
        refine FnPost.by (.inl rfl) (AS.sub.refl _) RetOK.nil ⟨L3, hfin (by omega), rfl, fun p hp => ?_⟩
        simp only [List.mem_cons, List.not_mem_nil, or_false] at hp
        subst hp; rfl
    · repeat' (first | refine GoC.seq ?_ | refine GoC.block ?_ | refine GoC.region rfl ?_ | refine GoC.skip ?_ | refine GoC.exit ?_ | (refine GoC.cond_d rfl ?_ ?_ <;> intro _ <;> try contradiction) | refine GoOps.nil ?_ | refine GoOps.a rfl ?_ | refine GoOps.p (OpL.mul rfl rfl (by (first | assumption | omega))) ?_)
      · exfalso; omega
      · rename_i k1
        try simp only [thenA, inBlockA, beq_self_eq_true, cond_true]
        refine FnPost.by (.inl rfl) (AS.sub.refl _) RetOK.nil ⟨L3, hq, rfl, fun p hp => ?_⟩
        simp only [List.mem_cons, List.not_mem_nil, or_false] at hp
        subst hp; rfl
end Go.Proofs.YtfbjoamdkieamaaGreat.AM
end

section
set_option linter.unusedSimpArgs false
set_option linter.unusedVariables false
set_option maxHeartbeats 8000000
namespace Go.Proofs.YtfbjoamdkieamaaGreat.AM
open Go Go.Proofs Go.Sort

theorem stSort_len (l : List Defect) : (stSort l).length = l.length := (stSort_perm l).length_eq
theorem inVD.stB {l : List Defect} (h : inVD l) : StB l := fun x hx => by
  rw [gd hx]; exact (h _ (List.getElem_mem hx)).2
theorem IdInc.of {l : List Defect} (h : l.Pairwise fun a b => a.id < b.id) : IdInc l 0 l.length := fun x y _ h2 h3 => by
  rw [List.pairwise_iff_getElem] at h
  have := h x y (by omega) h3 h2
  rwa [gd (by omega), gd h3]
theorem lDone_inc {l : List Defect} (hv : inVD l) : (lDone l).Pairwise fun a b => a.id < b.id := by
  have hne : (lDone l).Pairwise (fun a b => a.id ≠ b.id) := (List.Perm.pairwise_iff (fun {a b} h => fun h' => h h'.symm) (lDone_perm hv)).2 (allOf_ids l)
  exact (List.pairwise_and_iff.2 ⟨sortId_sorted _, hne⟩).imp fun ⟨h1, h2⟩ => by omega

theorem SortStable_spec (c : Bool) (xs : List Defect) (hl : xs.length ≤ 39) (hv : inVD xs) (hid : xs.Pairwise fun a b => a.id < b.id) : Spec env 55 [.sl c 1000003 3 0 xs.length, cmpF] (ofL .free (rowO xs))
    (fun r H' => r = .tuple [] ∧ ∀ p ∈ rowO (stSort xs), H' p.1 = p.2) := by
  have hst : Spec env 72 [.sl c 1000003 3 0 xs.length, .int .i64 xs.length, cmpF] (ofL .free (rowO xs)) (fun r H' => r = .tuple [] ∧ ∀ p ∈ rowO (stSort xs), H' p.1 = p.2) :=
    (stable_spec c xs hl hv.stB (IdInc.of hid)).mono fun r H' ⟨l', h1, h2, h3⟩ => ⟨h2, by rw [← h1.stSort]; exact h3⟩
  refine Spec.introR (nt := _) (rs := []) Tryz.func55 rfl rfl rfl rfl rfl [1000003] (fun i h => ofL_keys _ i h) fun X hX => ?_
  repeat' (first | refine GoC.region rfl ?_ | refine GoOps.a rfl ?_ | refine GoOps.p (OpL.len_s rfl rfl) ?_)
  refine GoOps.m (OpL.callO (lk []) rfl rfl hst rfl rfl ⟨⟨_, rfl, Elems.mapped (fun _ => rfl) rfl⟩, trivial⟩ (by rfl) (by rfl)
    (post := rowO (stSort xs))
    (by exact ⟨⟨rfl, ⟨_, rfl, OutE.mapped fun _ => rfl⟩, .inl rfl⟩, trivial⟩) (by rfl) (by rfl)) ?_
  repeat' (first | refine GoOps.nil ?_)
  try simp only [thenA, inBlockA, beq_self_eq_true, cond_true]
  refine FnPost.by (.inl rfl) (AS.sub.refl _) RetOK.nil ⟨rfl, fun p hp => ?_⟩
  simp only [List.mem_cons, List.not_mem_nil, or_false] at hp
  subst hp; rfl

theorem SortedFuncO_spec (es : List (Int × Defect)) (hes : es.length ≤ 1000) (hv : inVD (es.map (·.2))) (hd : (es.map (·.2)).Pairwise (fun a b => a.id ≠ b.id)) : Spec env 63 [.fn (.func 84) [] [.ptr 1000004 1 0 0], .fn (.func 65) [] []]
    (ofL .free [(1000004, .arr 67 1 [.omap 1000005]), (1000005, .map (ents (.int .i64) Defect.av es))])
    (fun r H' => r = .sl true 1000014 3 0 (sortId (es.map (·.2))).length ∧ ∀ p ∈ [(1000004, HO.arr 67 1 [.omap 1000005]), (1000005, .map (ents (.int .i64) Defect.av es)), (1000014, .arr 36 3 ((sortId (es.map (·.2))).map Defect.av))], H' p.1 = p.2) := by
  refine Spec.introR (nt := _) (rs := [_]) Tryz.func63 rfl rfl rfl rfl rfl [1000004, 1000005] (fun i h => ofL_keys _ i h) fun X hX => ?_
  repeat' (first | refine GoC.seq ?_ | refine GoC.region rfl ?_ | refine GoOps.nil ?_ | refine GoOps.a rfl ?_)
  refine GoOps.callZ (ζ := List Defect) (φ := fun xs => xs.Perm (es.map (·.2))) (lk []) rfl rfl (Collect_spec es hes) rfl rfl (by exact ⟨⟨_, rfl, Elems.ren (Wks.refl _) rfl⟩, ⟨rfl, ents_noId (fun _ => rfl) (fun _ => rfl)⟩, trivial⟩) (by rfl) (by exact fun _ _ => rfl) (by exact fun _ _ => rfl)
    (post := fun xs => [(1000014, HO.arr 36 3 (xs.map Defect.av)), (1000004, .arr 67 1 [.omap 1000005]), (1000005, .map (ents (.int .i64) Defect.av es))])
    (by exact fun xs _ => ⟨⟨rfl, ⟨_, rfl, OutE.mapped fun _ => rfl⟩, .inr rfl⟩, ⟨rfl, ⟨_, rfl, OutE.ren rfl⟩, .inl rfl⟩, ⟨rfl, ⟨rfl, ents_noId (fun _ => rfl) (fun _ => rfl)⟩, .inl rfl⟩, trivial⟩) (by exact fun _ _ => rfl) (by exact fun _ _ => rfl) fun xs hxs => ?_
  have hlx : xs.length ≤ 1000 := by have := hxs.length_eq; simp at this; omega
  have hvx : inVD xs := fun d h => hv d (hxs.mem_iff.1 h)
  have hls := (sortId_perm hvx).length_eq
  repeat' (first | refine GoC.seq ?_ | refine GoC.region rfl ?_ | refine GoOps.nil ?_ | refine GoOps.a rfl ?_)
  refine GoOps.m (OpL.sortId rfl rfl rfl rfl rfl (by omega) hvx) ?_
  repeat' (first | refine GoC.seq ?_ | refine GoC.region rfl ?_ | refine GoC.ret ?_ | refine GoOps.nil ?_ | refine GoOps.a rfl ?_)
  refine FnPost.by (.inr rfl) (AS.sub.refl _) (RetOK.hv rfl RetOK.nil) ?_
  rw [← sortId_eq hxs hv hd, hls]
  refine ⟨rfl, fun p hp => ?_⟩
  simp only [List.mem_cons, List.not_mem_nil, or_false] at hp
  rcases hp with rfl | rfl | rfl <;> rfl

theorem sortedO_spec {l : List Defect} (hl : l.length ≤ 1000) (hv : inVD l) : Spec env 40 [.agg [.omap 1000005, .omap 1000006]]
    (ofL .free [(1000005, .map (ents (.int .i64) Defect.av (allOf l))), (1000006, .map (ents Defect.av (.int .i64) (diffOf l)))])
    (fun r H' => r = .sl true 1000014 3 0 (lDone l).length ∧ ∀ p ∈ [(1000005, HO.map (ents (.int .i64) Defect.av (allOf l))), (1000006, .map (ents Defect.av (.int .i64) (diffOf l))), (1000014, .arr 36 3 ((lDone l).map Defect.av))], H' p.1 = p.2) := by
  have hes := Nat.le_trans (allOf_len l) hl
  have hv' := inVD_all hv
  have hd := allOf_ids l
  have hso := SortedFuncO_spec _ hes hv' hd
  show Spec env 40 _ _ (fun r H' => r = .sl true 1000014 3 0 (sortId ((allOf l).map (·.2))).length ∧ ∀ p ∈ [_, _, (1000014, HO.arr 36 3 ((sortId ((allOf l).map (·.2))).map Defect.av))], H' p.1 = p.2)
  generalize sortId ((allOf l).map (·.2)) = ys at *
  generalize allOf l = es at *
  generalize diffOf l = ds at *
  refine Spec.introR (nt := _) (rs := [_]) Tryz.func40 rfl rfl rfl rfl rfl [1000005, 1000006] (fun i h => ofL_keys _ i h) fun X hX => ?_
  repeat' (first | refine GoC.seq ?_ | refine GoC.region rfl ?_ | refine GoOps.nil ?_ | refine GoOps.a rfl ?_ | refine GoOps.m (OpL.boxw (by rfl) rfl rfl rfl rfl) ?_)
  refine GoOps.m (OpL.callO (lk [(1, 1000004)]) rfl rfl (Values_spec es) rfl rfl ⟨⟨rfl, ents_noId (fun _ => rfl) (fun _ => rfl)⟩, trivial⟩ (by rfl) (by rfl)
    (post := [(1000004, HO.arr 67 1 [.omap 1000005]), (1000005, .map (ents (.int .i64) Defect.av es))])
    (by exact ⟨⟨rfl, ⟨_, rfl, OutE.ren rfl⟩, .inr rfl⟩, ⟨rfl, ⟨rfl, ents_noId (fun _ => rfl) (fun _ => rfl)⟩, .inl rfl⟩, trivial⟩) (by rfl) (by rfl)) ?_
  refine GoOps.m (OpL.callO (lk []) rfl rfl hso rfl rfl ⟨⟨_, rfl, Elems.ren (Wks.refl _) rfl⟩, ⟨rfl, ents_noId (fun _ => rfl) (fun _ => rfl)⟩, trivial⟩ (by rfl) (by rfl)
    (post := [(1000004, HO.arr 67 1 [.omap 1000005]), (1000005, .map (ents (.int .i64) Defect.av es)), (1000014, .arr 36 3 (ys.map Defect.av))])
    (by exact ⟨⟨rfl, ⟨_, rfl, OutE.ren rfl⟩, .inl rfl⟩, ⟨rfl, ⟨rfl, ents_noId (fun _ => rfl) (fun _ => rfl)⟩, .inl rfl⟩, ⟨rfl, ⟨_, rfl, OutE.mapped fun _ => rfl⟩, .inr rfl⟩, trivial⟩) (by rfl) (by rfl)) ?_
  repeat' (first | refine GoC.ret ?_ | refine GoOps.nil ?_ | refine GoOps.a rfl ?_)
  refine FnPost.by (.inr rfl) (AS.sub.refl _) (RetOK.hv rfl RetOK.nil) ⟨rfl, fun p hp => ?_⟩
  simp only [List.mem_cons, List.not_mem_nil, or_false] at hp
  rcases hp with rfl | rfl | rfl <;> rfl

/-- slices.Index: the first place of a number, or -1. -/
def ixOf (x : Int) : List Int → Int
  | [] => -1
  | y :: r => if x = y then 0 else (if ixOf x r < 0 then -1 else ixOf x r + 1)
theorem ixOf_range (x : Int) (l : List Int) : -1 ≤ ixOf x l ∧ ixOf x l < l.length := by
  induction l with
  | nil => simp [ixOf]
  | cons y r ih => simp only [ixOf, List.length_cons]; split <;> (try split) <;> omega
theorem ixOf_of {x : Int} {l : List Int} {i : Nat} (hi : i < l.length) (h : ∀ j, j < i → l.getD j default ≠ x) (he : l.getD i default = x) : ixOf x l = i := by
  induction l generalizing i with
  | nil => simp at hi
  | cons y r ih =>
    cases i with
    | zero => simp only [List.getD_cons_zero] at he; simp [ixOf, he]
    | succ i =>
      have h0 := h 0 (by omega)
      simp only [List.getD_cons_zero] at h0
      have := ih (i := i) (by simpa using hi) (fun j hj => by have := h (j + 1) (by omega); simpa using this) (by simpa using he)
      simp only [ixOf, if_neg (Ne.symm h0), this]
      rw [if_neg (by omega)]; omega
theorem ixOf_none {x : Int} {l : List Int} (h : ∀ j, j < l.length → l.getD j default ≠ x) : ixOf x l = -1 := by
  induction l with
  | nil => rfl
  | cons y r ih =>
    have h0 := h 0 (by simp)
    simp only [List.getD_cons_zero] at h0
    have := ih (fun j hj => by have := h (j + 1) (by simp; omega); simpa using this)
    simp [ixOf, Ne.symm h0, this]

theorem Index_spec (c : Bool) (l : List Int) (x : Int) (hl : l.length ≤ 1000000) : PSpec env 44 [.list c 1 (l.map (.int .i64)), .int .i64 x] (.int .i64 (ixOf x l)) := by
  refine Spec.intro (nt := _) (rs := [_]) Tryz.func44 rfl rfl rfl rfl rfl [] (fun _ h => absurd rfl h) fun X => ?_
  repeat' (first | refine GoC.seq ?_ | refine GoC.block ?_ | refine GoC.region rfl ?_ | refine GoOps.nil ?_ | refine GoOps.a rfl ?_ | refine GoOps.p (OpL.len rfl rfl) ?_)
  refine GoC.loop (G := Nat) (fun i => ⟨ofL .junk [(0, .list c 1 (l.map (.int .i64))), (1, .int .i64 x), (7, .int .i64 l.length), (8, .int .i64 i)], ofL .free [], []⟩)
    (fun i => i ≤ l.length ∧ ∀ j, j < i → l.getD j default ≠ x) (fun i => l.length - i) 0 ⟨Nat.zero_le _, fun j h => absurd h (Nat.not_lt_zero j)⟩ (by (refine AS.sub.mk' _ _ (lk []) rfl rfl ?_ ?_ <;> repeat' (first | exact True.intro | rfl | exact Wk.refl _ | refine And.intro ?_ ?_))) ?_
  rintro i ⟨hi, hj⟩ R hR
  try dsimp only at *
  repeat' (first | refine GoC.seq ?_ | refine GoC.block ?_ | refine GoC.region rfl ?_ | refine GoC.skip ?_ | refine GoC.exit ?_ | refine GoC.ret ?_ | (refine GoC.cond_d rfl ?_ ?_ <;> intro _ <;> try contradiction) | refine GoOps.nil ?_ | refine GoOps.a rfl ?_ | refine GoOps.p (OpL.idx rfl rfl (by with_reducible exact rfl) rfl rfl rfl rfl (by (first | assumption | omega))) ?_ | refine GoOps.p (OpL.add rfl rfl (by (first | assumption | omega))) ?_)
  · ((try dsimp only [thenA, inBlockA]); refine FnPost.many (.inr rfl) (RetOK.hv rfl RetOK.nil) ?_; (try dsimp only [tup])); rw [ixOf_of (i := i) (by omega) hj (Eq.symm (by assumption))]
  · rename_i h1 h2
    refine hR (i + 1) _ ⟨by omega, fun j hj' => ?_⟩ (by omega) (by (refine AS.sub.mk' _ _ (lk []) rfl rfl ?_ ?_ <;> repeat' (first | exact True.intro | rfl | exact Wk.refl _ | refine And.intro ?_ ?_)))
    by_cases h : j < i
    · exact hj j h
    · obtain rfl : j = i := by omega
      exact fun he => h2 he.symm
  · ((try dsimp only [thenA, inBlockA]); refine FnPost.many (.inr rfl) (RetOK.hv rfl RetOK.nil) ?_; (try dsimp only [tup])); rw [ixOf_none fun j h => hj j (by omega)]
end Go.Proofs.YtfbjoamdkieamaaGreat.AM
end

section
set_option linter.unusedSimpArgs false
set_option linter.unusedVariables false
set_option maxHeartbeats 8000000
namespace Go.Proofs.YtfbjoamdkieamaaGreat.AM
open Go Go.Proofs Go.Sort


/-- The zone that a sector lies in: the last one of the first n; 0 if there is none. -/
def ownN (zs : List Zr) (s : Int) : Nat → Nat
  | 0 => 0
  | n + 1 => if (zs.getD n default).from_ ≤ s ∧ s < (zs.getD n default).to_ then n else ownN zs s n
theorem ownN_lt (zs : List Zr) (s : Int) : ∀ n, 1 ≤ n → ownN zs s n < n
  | 0, h => by omega
  | n + 1, _ => by
    simp only [ownN]
    split
    · omega
    · by_cases h : 1 ≤ n
      · have := ownN_lt zs s n h; omega
      · obtain rfl : n = 0 := by omega
        simp [ownN]
/-- The free list that is asked as the i-th. -/
def turnJ (own n i : Nat) : Nat := (((own : Int) + i) % (n : Int)).toNat
/-- The first free list, from the i-th asked on, that has a spare: k are left to ask. -/
def giveAt (free : List (List Int)) (own : Nat) : Nat → Nat → Option Nat
  | 0, _ => none
  | k + 1, i => if 0 < (free.getD (turnJ own free.length i) []).length then some (turnJ own free.length i) else giveAt free own k (i + 1)

def Plan.grow (d : Disk) (p : Plan) (s : Int) : Plan :=
  let v := (mget p.given s).getD 0 + 1
  let g := mput p.given s v
  let own := ownN d.zr s d.zones.length
  let l := p.free.getD own default
  if 1 < v then { p with given := g }
  else if l.contains s = true then { p with given := g, free := p.free.set own (l.take (l.countP (· < s)) ++ l.drop (l.countP (· < s) + 1)) }
  else if ixOf s p.blocks < 0 then { p with given := g }
  else match giveAt p.free own p.free.length 0 with
    | none => { p with given := g, blocks := p.blocks.set (ixOf s p.blocks).toNat (-1) }
    | some j => { given := g, blocks := p.blocks.set (ixOf s p.blocks).toNat ((p.free.getD j default).getD 0 default), free := p.free.set j ((p.free.getD j default).drop 1) }

theorem contains_countP {l : List Int} {x : Int} (hs : l.Pairwise (· ≤ ·)) (h : l.contains x = true) : l.countP (· < x) < l.length := by
  refine Nat.lt_of_le_of_ne List.countP_le_length fun he => ?_
  rw [List.countP_eq_length] at he
  have := he x (by simpa using h)
  simp at this
end Go.Proofs.YtfbjoamdkieamaaGreat.AM
end

section
set_option linter.unusedSimpArgs false
set_option linter.unusedVariables false
set_option maxHeartbeats 8000000
namespace Go.Proofs.YtfbjoamdkieamaaGreat.AM
open Go Go.Proofs Go.Sort

/-- What a plan keeps. -/
structure Plan.Good (d : Disk) (p : Plan) : Prop where
  len : p.free.length = d.zones.length
  blocks : p.blocks.length ≤ 10000
  sorted : ∀ l ∈ p.free, l.Pairwise (· ≤ ·) ∧ l.length ≤ 10000
  given : ∀ s, 0 ≤ (mget p.given s).getD 0 ∧ (mget p.given s).getD 0 ≤ 10000

theorem grow_spec (f : Format) (p : Plan) (s : Int) (hd : f.disk.Good) (hp : p.Good f.disk) : Spec env 57 [.ptr 1000040 15 0 0, .int .i64 s] (ofL .free (planO f p)) (fun r H' => r = .tuple [] ∧ ∀ q ∈ planO f (p.grow f.disk s), H' q.1 = q.2) := by
  have hv := hp.given s
  have hbl := hp.blocks
  have hlen := hd.len
  have hfl := hp.len
  have hso := hp.sorted
  have hz := pzones_spec f ⟨p.blocks, p.free, mput p.given s ((mget p.given s).getD 0 + 1)⟩ hd
  have hzl : f.disk.zr.length = f.disk.zones.length := zrs_len _ _
  obtain ⟨blocks, free, given⟩ := p
  dsimp only at *
  refine Spec.introR (nt := _) (rs := []) Tryz.func57 rfl rfl rfl rfl rfl [1000040, 1000041, 1000042, 1000043] (fun i h => ofL_keys _ i h) fun X hX => ?_
  simp only [planO] at hz ⊢
  try dsimp only at hz ⊢
  have e0 : (mget (mput given s ((mget given s).getD 0 + 1)) s).getD 0 = (mget given s).getD 0 + 1 := by rw [mget_mput, if_pos rfl]; rfl
  repeat' (first | refine GoC.seq ?_ | refine GoC.region rfl ?_ | refine GoC.skip ?_ | refine GoC.ret ?_ | (refine GoC.cond_d rfl ?_ ?_ <;> intro _ <;> try contradiction) | refine GoOps.nil ?_ | refine GoOps.a rfl ?_ | refine GoOps.p (OpL.add rfl rfl (by (first | assumption | omega))) ?_ | refine GoOps.p (OpL.lookup rfl rfl rfl rfl (by first | exact int_keyT | exact Defect.keyT) rfl rfl rfl) ?_ | refine GoOps.n (OpL.mapUpdate rfl rfl rfl rfl rfl (by first | exact int_keyT | exact Defect.keyT)) ?_)
  · rename_i h1
    rw [e0] at h1
    try simp only [thenA, inBlockA, beq_self_eq_true, cond_true]
    refine FnPost.by (.inr rfl) (AS.sub.refl _) RetOK.nil ⟨rfl, fun q hq => ?_⟩
    simp only [Plan.grow, if_pos h1, planO, List.mem_cons, List.not_mem_nil, or_false] at hq
    rcases hq with rfl | rfl | rfl | rfl <;> rfl
  · rename_i h1
    rw [e0] at h1
    generalize hg : mput given s ((mget given s).getD 0 + 1) = given' at *
    have hgr : (⟨blocks, free, given⟩ : Plan).grow f.disk s = (if (free.getD (ownN f.disk.zr s f.disk.zones.length) default).contains s = true then ⟨blocks, free.set (ownN f.disk.zr s f.disk.zones.length) ((free.getD (ownN f.disk.zr s f.disk.zones.length) default).take ((free.getD (ownN f.disk.zr s f.disk.zones.length) default).countP (· < s)) ++ (free.getD (ownN f.disk.zr s f.disk.zones.length) default).drop ((free.getD (ownN f.disk.zr s f.disk.zones.length) default).countP (· < s) + 1)), given'⟩
      else if ixOf s blocks < 0 then ⟨blocks, free, given'⟩
      else match giveAt free (ownN f.disk.zr s f.disk.zones.length) free.length 0 with
        | none => ⟨blocks.set (ixOf s blocks).toNat (-1), free, given'⟩
        | some j => ⟨blocks.set (ixOf s blocks).toNat ((free.getD j default).getD 0 default), free.set j ((free.getD j default).drop 1), given'⟩) := by
      simp only [Plan.grow, if_neg h1, hg] <;> rfl
    rw [hgr]
    clear hgr hp
    skip
    refine GoOps.m (OpL.callO (lk []) rfl rfl hz rfl rfl ⟨⟨_, rfl, Elems.ren (Wks.refl _) rfl⟩, ⟨_, rfl, Elems.mapped (fun _ => rfl) rfl⟩, ⟨_, rfl, Elems.mapped (fun _ => rfl) rfl⟩, ⟨rfl, ents_noId (fun _ => rfl) (fun _ => rfl)⟩, trivial⟩ (by rfl) (by rfl)
      (post := [(1000040, _), (1000041, _), (1000042, _), (1000043, _)])
      (by exact ⟨⟨rfl, ⟨_, rfl, OutE.ren rfl⟩, .inl rfl⟩, ⟨rfl, ⟨_, rfl, OutE.mapped fun _ => rfl⟩, .inl rfl⟩, ⟨rfl, ⟨_, rfl, OutE.mapped fun _ => rfl⟩, .inl rfl⟩, ⟨rfl, ⟨rfl, ents_noId (fun _ => rfl) (fun _ => rfl)⟩, .inl rfl⟩, trivial⟩) (by rfl) (by rfl)) ?_
    repeat' (first | refine GoC.block ?_ | refine GoOps.nil ?_ | refine GoOps.a rfl ?_ | refine GoOps.p (OpL.len rfl rfl) ?_)
    refine GoC.loop (G := Nat) (fun i => ⟨ofL .junk [(0, .ptr 1000040 15 0 0), (1, .int .i64 s), (4, .int .i64 (ownN f.disk.zr s i : Nat)), (27, .list true 2 (f.disk.zr.map Zr.av)), (28, .int .i64 f.disk.zr.length), (29, .int .i64 i)],
        ofL .free (planO f ⟨blocks, free, given'⟩), [1000040, 1000041, 1000042, 1000043]⟩)
      (fun i => i ≤ f.disk.zr.length) (fun i => f.disk.zr.length - i) 0 (Nat.zero_le _) (by simp only [planO]; (refine AS.sub.mk' _ _ (lk []) rfl rfl ?_ ?_ <;> repeat' (first | exact True.intro | rfl | exact Wk.refl _ | exact ⟨_, rfl, Elems.mapped (fun _ => rfl) rfl⟩ | exact ⟨rfl, ents_noId (fun _ => rfl) (fun _ => rfl)⟩ | exact ⟨_, rfl, Elems.ren (Wks.refl _) rfl⟩ | refine And.intro ?_ ?_))) ?_
    intro i hi R hR
    simp only [planO] at hR ⊢
    repeat' (first | refine GoC.seq ?_ | refine GoC.block ?_ | refine GoC.region rfl ?_ | refine GoC.skip ?_ | refine GoC.exit ?_ | refine GoC.cond_f rfl ?_ | (refine GoC.cond_d rfl ?_ ?_ <;> intro _ <;> try contradiction) | refine GoOps.nil ?_ | refine GoOps.a rfl ?_ | refine GoOps.u rfl rfl rfl rfl ?_ | refine GoOps.gs rfl rfl rfl rfl ?_ | refine GoOps.b rfl ?_ | refine GoOps.p (OpL.idx rfl rfl (by with_reducible exact rfl) rfl rfl rfl rfl (by (first | assumption | omega))) ?_ | refine GoOps.p (OpL.add rfl rfl (by (first | assumption | omega))) ?_ | refine GoOps.n (OpL.st1 rfl) ?_ | (refine GoOps.sd rfl rfl ?_ ?_ <;> intro _ <;> try contradiction))
    · refine hR (i + 1) _ (by omega) (by omega) ?_
      rw [ownN, if_pos ⟨by assumption, by assumption⟩]
      (refine AS.sub.mk' _ _ (lk []) rfl rfl ?_ ?_ <;> repeat' (first | exact True.intro | rfl | exact Wk.refl _ | exact ⟨_, rfl, Elems.mapped (fun _ => rfl) rfl⟩ | exact ⟨rfl, ents_noId (fun _ => rfl) (fun _ => rfl)⟩ | exact ⟨_, rfl, Elems.ren (Wks.refl _) rfl⟩ | refine And.intro ?_ ?_))
    · refine hR (i + 1) _ (by omega) (by omega) ?_
      rw [ownN, if_neg (fun h => by first | exact absurd h.1 (by assumption) | exact absurd h.2 (by assumption))]
      (refine AS.sub.mk' _ _ (lk []) rfl rfl ?_ ?_ <;> repeat' (first | exact True.intro | rfl | exact Wk.refl _ | exact ⟨_, rfl, Elems.mapped (fun _ => rfl) rfl⟩ | exact ⟨rfl, ents_noId (fun _ => rfl) (fun _ => rfl)⟩ | exact ⟨_, rfl, Elems.ren (Wks.refl _) rfl⟩ | refine And.intro ?_ ?_))
    · refine hR (i + 1) _ (by omega) (by omega) ?_
      rw [ownN, if_neg (fun h => by first | exact absurd h.1 (by assumption) | exact absurd h.2 (by assumption))]
      (refine AS.sub.mk' _ _ (lk []) rfl rfl ?_ ?_ <;> repeat' (first | exact True.intro | rfl | exact Wk.refl _ | exact ⟨_, rfl, Elems.mapped (fun _ => rfl) rfl⟩ | exact ⟨rfl, ents_noId (fun _ => rfl) (fun _ => rfl)⟩ | exact ⟨_, rfl, Elems.ren (Wks.refl _) rfl⟩ | refine And.intro ?_ ?_))
    · obtain rfl : i = f.disk.zones.length := by omega
      have hown := ownN_lt f.disk.zr s f.disk.zones.length hlen.1
      generalize ownN f.disk.zr s f.disk.zones.length = own at *
      have hlo := hso _ (mem_gd (l := free) (i := own) (by omega))
      repeat' (first | refine GoOps.a rfl ?_ | refine GoOps.p (OpL.idx_s rfl rfl (by with_reducible exact rfl) rfl rfl rfl rfl rfl (by (first | assumption | omega))) ?_ | refine GoOps.p (OpL.ldm rfl rfl (by (first | assumption | omega)) rfl (fun _ => rfl)) ?_)
      rw [Nat.zero_add own]
      refine GoOps.p (OpL.bsI rfl rfl rfl hlo.1 (by omega)) ?_
      generalize hl : free.getD own default = l at *
      repeat' (first | refine GoC.seq ?_ | refine GoC.region rfl ?_ | refine GoC.draw env_mixed ?_ | refine GoC.skip ?_ | (refine GoC.cond rfl ?_ ?_ <;> intro _ <;> try contradiction) | refine GoOps.nil ?_ | refine GoOps.a rfl ?_ | refine GoD.a rfl ?_ | refine GoD.p (OpL.idx_s rfl rfl (by with_reducible exact rfl) rfl rfl rfl rfl rfl (by (first | assumption | omega))) ?_ | refine GoD.p (OpL.ldm rfl rfl (by (first | assumption | omega)) rfl (fun _ => rfl)) ?_)
      · rename_i hc
        have hcl := contains_countP hlo.1 hc
        have hne : l ≠ [] := fun h => by rw [h] at hcl; simp at hcl
        rw [if_pos hc]
        skip
        rw [Nat.zero_add own, hl]
        refine GoD.m (OpL.callO (lk [(7, 1000071)]) rfl rfl (CloneO_spec _ l (by omega) hne) rfl rfl trivial (by rfl) (by rfl)
          (post := [(1000071, .arr 3 1 (l.map (.int .i64)))])
          (by exact ⟨⟨rfl, ⟨_, rfl, OutE.mapped fun _ => rfl⟩, .inr rfl⟩, trivial⟩) (by rfl) (by rfl)) ?_
        repeat' (first | refine GoD.a rfl ?_ | refine GoD.p (OpL.add rfl rfl (by (first | assumption | omega))) ?_)
        refine GoD.m (OpL.delI (i := l.countP (· < s)) (j := l.countP (· < s) + 1) rfl rfl rfl rfl rfl (by simp) (by omega) (by omega) (by omega) hne) ?_
        repeat' (first | refine GoC.ret ?_ | refine GoD.done rfl rfl (by kernel_rfl) ?_ | refine GoD.p (OpL.idx_s rfl rfl (by with_reducible exact rfl) rfl rfl rfl rfl rfl (by (first | assumption | omega))) ?_ | refine GoD.n (OpL.stm rfl rfl rfl (by (first | assumption | omega)) (fun _ => rfl) (fun _ => rfl) rfl) ?_)
        rw [Nat.zero_add own]
        try simp only [thenA, inBlockA, beq_self_eq_true, cond_true]
        refine FnPost.by (.inr rfl) (AS.sub.refl _) RetOK.nil ⟨rfl, fun q hq => ?_⟩
        simp only [planO, List.length_set, List.mem_cons, List.not_mem_nil, or_false] at hq
        rcases hq with rfl | rfl | rfl | rfl <;> rfl
      · rename_i hc
        have hc' : ¬ l.contains s = true := by rw [hc]; decide
        rw [if_neg hc']
        have hix := ixOf_range s blocks
        refine GoOps.p (OpL.callV [1000041] rfl rfl (Index_spec true blocks s (by omega)) (.cons (Fz.mp rfl rfl (fun _ => rfl) (by simp)) (.cons (.same _) .nil)) rfl rfl) ?_
        generalize ixOf s blocks = ix at *
        repeat' (first | refine GoC.seq ?_ | refine GoC.block ?_ | refine GoC.region rfl ?_ | refine GoC.skip ?_ | refine GoC.ret ?_ | (refine GoC.cond_d rfl ?_ ?_ <;> intro _ <;> try contradiction) | refine GoOps.nil ?_ | refine GoOps.a rfl ?_ | refine GoOps.p (OpL.len_s rfl rfl) ?_ | refine GoOps.p (OpL.idx_sn rfl rfl rfl rfl rfl rfl (by (first | assumption | omega))) ?_ | refine GoOps.n (OpL.stm rfl rfl rfl (by (first | assumption | omega)) (fun _ => rfl) (fun _ => rfl) rfl) ?_)
        · rename_i hn
          rw [if_pos hn]
          try simp only [thenA, inBlockA, beq_self_eq_true, cond_true]
          refine FnPost.by (.inr rfl) (AS.sub.refl _) RetOK.nil ⟨rfl, fun q hq => ?_⟩
          simp only [planO, List.mem_cons, List.not_mem_nil, or_false] at hq
          rcases hq with rfl | rfl | rfl | rfl <;> rfl
        · rename_i hn
          rw [if_neg hn]
          have hlf : 0 < free.length := by omega
          have hsl : (blocks.set ix.toNat (-1)).length = blocks.length := List.length_set
          refine GoC.loop (G := Nat) (fun i => ⟨ofL .junk [(0, .ptr 1000040 15 0 0), (4, .int .i64 (own : Nat)), (9, .int .i64 ix), (95, .int .i64 free.length), (96, .int .i64 i)],
              ofL .free [(1000040, .arr 63 15 [planAv f blocks.length free.length]), (1000041, .arr 3 1 ((blocks.set ix.toNat (-1)).map (.int .i64))), (1000042, .arr 27 1 (free.map intsL)), (1000043, .map (ents (.int .i64) (.int .i64) given'))], [1000040, 1000041, 1000042, 1000043]⟩)
            (fun i => i ≤ free.length ∧ giveAt free own free.length 0 = giveAt free own (free.length - i) i) (fun i => free.length - i) 0 ⟨Nat.zero_le _, rfl⟩ (by (refine AS.sub.mk' _ _ (lk []) rfl rfl ?_ ?_ <;> repeat' (first | exact True.intro | rfl | exact Wk.refl _ | exact ⟨_, rfl, Elems.mapped (fun _ => rfl) rfl⟩ | exact ⟨rfl, ents_noId (fun _ => rfl) (fun _ => rfl)⟩ | exact ⟨_, rfl, Elems.ren (Wks.refl _) rfl⟩ | refine And.intro ?_ ?_))) ?_
          rintro i ⟨hi, hgi⟩ R hR
          try dsimp only at hi hgi
          have hm0 : 0 ≤ ((own : Int) + (i : Int)) % (free.length : Int) := Int.emod_nonneg _ (by omega)
          have hm1 : ((own : Int) + (i : Int)) % (free.length : Int) < free.length := Int.emod_lt_of_pos _ (by omega)
          repeat' (first | refine GoC.seq ?_ | refine GoC.block ?_ | refine GoC.region rfl ?_ | refine GoC.draw env_mixed ?_ | refine GoC.skip ?_ | refine GoC.exit ?_ | refine GoC.ret ?_ | (refine GoC.cond_d rfl ?_ ?_ <;> intro _ <;> try contradiction) | refine GoOps.nil ?_ | refine GoD.done rfl rfl (by kernel_rfl) ?_ | refine GoOps.a rfl ?_ | refine GoD.a rfl ?_ | refine GoOps.p (OpL.len rfl rfl) ?_ | refine GoD.p (OpL.len_s rfl rfl) ?_ | refine GoD.p (OpL.idxn rfl rfl rfl rfl rfl rfl (by (first | assumption | omega))) ?_ | refine GoD.p (OpL.idx_sn rfl rfl rfl rfl rfl rfl (by (first | assumption | omega))) ?_ | refine GoOps.p (OpL.add rfl rfl (by (first | assumption | omega))) ?_ | refine GoD.p (OpL.add rfl rfl (by (first | assumption | omega))) ?_ | refine GoD.p (OpL.remn rfl rfl (by (first | assumption | omega)) (by (first | assumption | omega))) ?_ | refine GoD.p (OpL.sfr rfl rfl rfl rfl rfl (by (first | assumption | omega))) ?_ | refine GoOps.p (OpL.ldm rfl rfl (by (first | assumption | omega)) rfl (fun _ => rfl)) ?_ | refine GoD.p (OpL.ldm rfl rfl (by (first | assumption | omega)) rfl (fun _ => rfl)) ?_ | refine GoD.n (OpL.stm rfl rfl rfl (by (first | assumption | omega)) (fun _ => rfl) (fun _ => rfl) rfl) ?_)
          · rename_i hh
            have hk : free.length - i = (free.length - i - 1) + 1 := by omega
            have hh' : 0 < (free.getD (turnJ own free.length i) []).length := by
              have : 0 < (free.getD (((own : Int) + (i : Int)) % (free.length : Int)).toNat default).length := by omega
              exact this
            rw [hk, giveAt, if_pos hh'] at hgi
            rw [hgi]
            try simp only [thenA, inBlockA, beq_self_eq_true, cond_true]
            refine FnPost.by (.inr rfl) (AS.sub.refl _) RetOK.nil ⟨rfl, fun q hq => ?_⟩
            simp only [planO, List.length_set, List.mem_cons, List.not_mem_nil, or_false] at hq
            rw [show blocks.set ix.toNat ((free.getD (turnJ own free.length i) default).getD 0 default) = (blocks.set ix.toNat (-1)).set ix.toNat ((free.getD (turnJ own free.length i) default).getD 0 default) by rw [List.set_set]] at hq
            rcases hq with rfl | rfl | rfl | rfl <;> rfl
          · rename_i hh
            have hk : free.length - i = (free.length - i - 1) + 1 := by omega
            have hh' : ¬ 0 < (free.getD (turnJ own free.length i) []).length := by
              intro h
              have : 0 < (free.getD (((own : Int) + (i : Int)) % (free.length : Int)).toNat default).length := h
              exact hh (by omega)
            rw [hk, giveAt, if_neg hh'] at hgi
            refine hR (i + 1) _ ⟨by omega, by rw [hgi, show free.length - (i + 1) = free.length - i - 1 by omega]⟩ (by omega) (by (refine AS.sub.mk' _ _ (lk []) rfl rfl ?_ ?_ <;> repeat' (first | exact True.intro | rfl | exact Wk.refl _ | exact ⟨_, rfl, Elems.mapped (fun _ => rfl) rfl⟩ | exact ⟨rfl, ents_noId (fun _ => rfl) (fun _ => rfl)⟩ | exact ⟨_, rfl, Elems.ren (Wks.refl _) rfl⟩ | refine And.intro ?_ ?_)))
          · obtain rfl : i = free.length := by omega
            rw [Nat.sub_self, giveAt] at hgi
            rw [hgi]
            try simp only [thenA, inBlockA, beq_self_eq_true, cond_true]
            refine FnPost.by (.inl rfl) (AS.sub.refl _) RetOK.nil ⟨rfl, fun q hq => ?_⟩
            simp only [planO, List.length_set, List.mem_cons, List.not_mem_nil, or_false] at hq
            rcases hq with rfl | rfl | rfl | rfl <;> rfl
end Go.Proofs.YtfbjoamdkieamaaGreat.AM
end

section
set_option linter.unusedSimpArgs false
set_option linter.unusedVariables false
set_option maxHeartbeats 8000000
namespace Go.Proofs.YtfbjoamdkieamaaGreat.AM
open Go Go.Proofs Go.Sort

def tally (l : List Int) : List (Int × Int) := l.foldl (fun m s => mput m s ((mget m s).getD 0 + 1)) []
theorem tally_succ {l : List Int} {i : Nat} (h : i < l.length) : tally (l.take (i + 1)) = mput (tally (l.take i)) (l.getD i default) ((mget (tally (l.take i)) (l.getD i default)).getD 0 + 1) := by
  rw [take_snoc h, tally, List.foldl_append]; rfl
theorem tally_b (l : List Int) : ∀ x, 0 ≤ (mget (tally l) x).getD 0 ∧ (mget (tally l) x).getD 0 ≤ l.length := by
  have key : ∀ i, i ≤ l.length → ∀ x, 0 ≤ (mget (tally (l.take i)) x).getD 0 ∧ (mget (tally (l.take i)) x).getD 0 ≤ i := by
    intro i
    induction i with
    | zero => intro _ x; simp [tally, mget]
    | succ i ih =>
      intro hi x
      rw [tally_succ (by omega), mget_mput]
      have h1 := ih (by omega) x
      have h2 := ih (by omega) (l.getD i default)
      split
      · simp only [Option.getD_some]; omega
      · omega
  have := key l.length (Nat.le_refl _)
  rwa [List.take_length] at this

/-- The good ones of n sectors from one on. -/
def goodN (g : List (Int × Int)) (from_ : Int) (n : Nat) : List Int := ((List.range n).map fun (k : Nat) => from_ + k).filter fun s => decide ((mget g s).getD 0 = 0)
theorem goodN_succ (g : List (Int × Int)) (from_ : Int) (n : Nat) : goodN g from_ (n + 1) = goodN g from_ n ++ (if (mget g (from_ + n)).getD 0 = 0 then [from_ + n] else []) := by
  unfold goodN
  rw [List.range_succ, List.map_append, List.filter_append]
  simp only [List.map_cons, List.map_nil, List.filter_cons, List.filter_nil, decide_eq_true_eq]
theorem goodN_len (g : List (Int × Int)) (from_ : Int) (n : Nat) : (goodN g from_ n).length ≤ n := by
  have := List.length_filter_le (fun s => decide ((mget g s).getD 0 = 0)) ((List.range n).map fun (k : Nat) => from_ + k)
  simpa [goodN] using this
theorem goodN_sorted (g : List (Int × Int)) (from_ : Int) (n : Nat) : (goodN g from_ n).Pairwise (· ≤ ·) := by
  unfold goodN
  refine List.Pairwise.filter _ ?_
  rw [List.pairwise_map]
  exact List.pairwise_le_range.imp fun h => by omega

def cutOf (f : Format) (good : List Int) : Nat := (max 0 ((good.length : Int) - f.spares)).toNat
def goodZ (f : Format) (z : Zr) : List Int := goodN (tally f.primary) z.from_ (z.to_ - z.from_).toNat
def layZ (f : Format) (p : List Int × List (List Int)) (z : Zr) : List Int × List (List Int) :=
  (p.1 ++ (goodZ f z).take (cutOf f (goodZ f z)), p.2 ++ [(goodZ f z).drop (cutOf f (goodZ f z))])
def layN (f : Format) (n : Nat) : List Int × List (List Int) := (f.disk.zr.take n).foldl (layZ f) ([], [])
theorem layN_succ (f : Format) {n : Nat} (h : n < f.disk.zr.length) : layN f (n + 1) = layZ f (layN f n) (f.disk.zr.getD n default) := by
  rw [layN, take_snoc h, List.foldl_append]; rfl
def plan0 (f : Format) : Plan := ⟨(layN f f.disk.zr.length).1, (layN f f.disk.zr.length).2, tally f.primary⟩
def msgs (f : Format) : List Defect := stSort (lDone f.grown)
def growL (f : Format) (p : Plan) (l : List Defect) : Plan := l.foldl (fun p d => p.grow f.disk d.sector) p
theorem growL_succ (f : Format) (p : Plan) {l : List Defect} {i : Nat} (h : i < l.length) : growL f p (l.take (i + 1)) = (growL f p (l.take i)).grow f.disk (l.getD i default).sector := by
  rw [growL, take_snoc h, List.foldl_append]; rfl
def layP (f : Format) : Plan := growL f (plan0 f) (msgs f)

theorem zrs_get {d : Disk} {n i : Nat} (h : i < n) : (zrs d n).getD i default = ⟨zat d i, zat d (i + 1)⟩ := by
  rw [List.getD_eq_getElem?_getD, zrs, List.getElem?_map, List.getElem?_range h]; rfl
theorem zat_mono {d : Disk} (hd : d.Good) (i : Nat) : zat d i ≤ zat d (i + 1) := by
  by_cases h : i < d.zones.length
  · have h1 : zat d (i + 1) = zat d i + (d.zones.getD i default).cyl * (d.zones.getD i default).sec * d.heads := sumOf_take _ h
    have hz := hd.zone _ (mem_gd h)
    have hh := hd.heads
    have : 0 ≤ (d.zones.getD i default).cyl * (d.zones.getD i default).sec * d.heads := Int.mul_nonneg (Int.mul_nonneg (by omega) (by omega)) (by omega)
    omega
  · have : d.zones.take (i + 1) = d.zones.take i := by rw [List.take_of_length_le (by omega), List.take_of_length_le (by omega)]
    unfold zat
    rw [this]; omega
theorem zat_b {d : Disk} (hd : d.Good) (i : Nat) : 0 ≤ zat d i ∧ zat d i ≤ 5120 := hd.cnt i

theorem layN_props {f : Format} (hd : f.disk.Good) : ∀ n, n ≤ f.disk.zr.length → (layN f n).2.length = n ∧ ((layN f n).1.length : Int) ≤ zat f.disk n ∧ ∀ l ∈ (layN f n).2, l.Pairwise (· ≤ ·) ∧ l.length ≤ 5120
  | 0, _ => by
    refine ⟨rfl, ?_, fun l h => ?_⟩
    · have := (zat_b hd 0).1
      simpa [layN] using this
    · simp [layN] at h
  | n + 1, h => by
    obtain ⟨h1, h2, h3⟩ := layN_props hd n (by omega)
    rw [layN_succ f (by omega)]
    have hl : f.disk.zr.length = f.disk.zones.length := zrs_len _ _
    have hg : f.disk.zr.getD n default = ⟨zat f.disk n, zat f.disk (n + 1)⟩ := zrs_get (by omega)
    have hm := zat_mono hd n
    have hb := zat_b hd n
    have hb1 := zat_b hd (n + 1)
    have hlen : (goodZ f (f.disk.zr.getD n default)).length ≤ (zat f.disk (n + 1) - zat f.disk n).toNat := by
      rw [hg]; exact goodN_len _ _ _
    refine ⟨by simp [layZ, h1], ?_, fun l hl => ?_⟩
    · simp only [layZ, List.length_append, List.length_take]
      omega
    · simp only [layZ, List.mem_append, List.mem_singleton] at hl
      rcases hl with hl | rfl
      · exact h3 l hl
      · exact ⟨(goodN_sorted _ _ _).sublist (List.drop_sublist _ _), by rw [List.length_drop]; omega⟩

/-- What a plan keeps, with a bound on how often a sector was given. -/
structure Plan.GoodN (d : Disk) (p : Plan) (n : Nat) : Prop where
  len : p.free.length = d.zones.length
  blocks : p.blocks.length ≤ 10000
  sorted : ∀ l ∈ p.free, l.Pairwise (· ≤ ·) ∧ l.length ≤ 10000
  given : ∀ s, 0 ≤ (mget p.given s).getD 0 ∧ (mget p.given s).getD 0 ≤ n
theorem Plan.GoodN.good {d : Disk} {p : Plan} {n : Nat} (h : p.GoodN d n) (hn : n ≤ 10000) : p.Good d :=
  ⟨h.len, h.blocks, h.sorted, fun s => ⟨(h.given s).1, by have := (h.given s).2; omega⟩⟩
theorem plan0_good {f : Format} (hd : f.disk.Good) : (plan0 f).GoodN f.disk f.primary.length := by
  obtain ⟨h1, h2, h3⟩ := layN_props hd f.disk.zr.length (Nat.le_refl _)
  have hb := zat_b hd f.disk.zr.length
  have hl : f.disk.zr.length = f.disk.zones.length := zrs_len _ _
  exact ⟨by rw [← hl]; exact h1, by simp only [plan0]; omega, fun l h => ⟨(h3 l h).1, by have := (h3 l h).2; omega⟩, tally_b f.primary⟩
theorem Plan.grow_good {d : Disk} {p : Plan} {n : Nat} (h : p.GoodN d n) (s : Int) : (p.grow d s).GoodN d (n + 1) := by
  have hg : ∀ x, 0 ≤ (mget (mput p.given s ((mget p.given s).getD 0 + 1)) x).getD 0 ∧ (mget (mput p.given s ((mget p.given s).getD 0 + 1)) x).getD 0 ≤ (n + 1 : Nat) := by
    intro x
    rw [mget_mput]
    have h1 := h.given s
    have h2 := h.given x
    split
    · simp only [Option.getD_some]; omega
    · omega
  have hset : ∀ (j : Nat) (l' : List Int), (∀ l ∈ p.free, l'.Pairwise (· ≤ ·) ∧ l'.length ≤ 10000) → ∀ l ∈ p.free.set j l', l.Pairwise (· ≤ ·) ∧ l.length ≤ 10000 := by
    intro j l' hl' l hl
    rcases List.mem_or_eq_of_mem_set hl with h1 | rfl
    · exact h.sorted l h1
    · cases hf : p.free with
      | nil => rw [hf] at hl; simp at hl
      | cons a r => exact hl' a (by rw [hf]; simp)
  have hsub : ∀ (j : Nat) (l' : List Int), l'.Sublist (p.free.getD j default) → l'.Pairwise (· ≤ ·) ∧ l'.length ≤ 10000 := by
    intro j l' hs
    by_cases hj : j < p.free.length
    · have := h.sorted _ (mem_gd hj)
      exact ⟨this.1.sublist hs, Nat.le_trans hs.length_le this.2⟩
    · have : p.free.getD j default = [] := by rw [List.getD_eq_getElem?_getD, List.getElem?_eq_none (by omega)]; rfl
      rw [this] at hs
      rw [List.sublist_nil.1 hs]; simp
  unfold Plan.grow
  dsimp only
  split
  · exact ⟨h.len, h.blocks, h.sorted, hg⟩
  split
  · refine ⟨by simp [h.len], h.blocks, hset _ _ fun l hl => hsub (ownN d.zr s d.zones.length) _ ?_, hg⟩
    refine (List.Sublist.append (List.Sublist.refl _) (List.drop_sublist_drop_left _ (Nat.le_succ _))).trans ?_
    rw [List.take_append_drop]
    exact List.Sublist.refl _
  split
  · exact ⟨h.len, h.blocks, h.sorted, hg⟩
  split
  · exact ⟨h.len, by simp [h.blocks], h.sorted, hg⟩
  · exact ⟨by simp [h.len], by simp [h.blocks], hset _ _ fun l hl => hsub _ _ (List.drop_sublist _ _), hg⟩
theorem growL_good {f : Format} {p : Plan} {n : Nat} (h : p.GoodN f.disk n) (l : List Defect) : ∀ i, i ≤ l.length → (growL f p (l.take i)).GoodN f.disk (n + i)
  | 0, _ => by simpa [growL] using h
  | i + 1, hi => by
    rw [growL_succ f p (by omega)]
    exact Plan.grow_good (growL_good h l i (by omega)) _
end Go.Proofs.YtfbjoamdkieamaaGreat.AM
end

section
set_option linter.unusedSimpArgs false
set_option linter.unusedVariables false
set_option maxHeartbeats 8000000
namespace Go.Proofs.YtfbjoamdkieamaaGreat.AM
open Go Go.Proofs Go.Sort

theorem NilT.plan {f : Format} : NilT 1000041 (.agg [.int .i64 f.disk.heads, .int .i64 f.disk.turn, .list false 2 (f.disk.zones.map Zone.av), .int .i64 f.disk.headSkew, .int .i64 f.disk.cylSkew, .int .i64 f.disk.hs.low, .int .i64 f.disk.hs.high, .int .i64 f.disk.cs.low, .int .i64 f.disk.cs.high,
  .int .i64 f.spares, .list false 1 (f.primary.map (.int .i64)), .list false 3 (f.grown.map Defect.av), .list true 0 [], .list true 0 [], .omap 22])
  (.agg [.int .i64 f.disk.heads, .int .i64 f.disk.turn, .list false 2 (f.disk.zones.map Zone.av), .int .i64 f.disk.headSkew, .int .i64 f.disk.cylSkew, .int .i64 f.disk.hs.low, .int .i64 f.disk.hs.high, .int .i64 f.disk.cs.low, .int .i64 f.disk.cs.high,
  .int .i64 f.spares, .list false 1 (f.primary.map (.int .i64)), .list false 3 (f.grown.map Defect.av), .sl true 1000041 1 0 0, .list true 0 [], .omap 22]) :=
  .agg (.cons (.same _ _) (.cons (.same _ _) (.cons (.same _ _) (.cons (.same _ _) (.cons (.same _ _) (.cons (.same _ _) (.cons (.same _ _) (.cons (.same _ _) (.cons (.same _ _) (.cons (.same _ _) (.cons (.same _ _) (.cons (.same _ _) (.cons (.nil _ _ _) (.same _ _))))))))))))))
theorem NilT.plan2 {f : Format} : NilT 1000042 (.agg [.int .i64 f.disk.heads, .int .i64 f.disk.turn, .list false 2 (f.disk.zones.map Zone.av), .int .i64 f.disk.headSkew, .int .i64 f.disk.cylSkew, .int .i64 f.disk.hs.low, .int .i64 f.disk.hs.high, .int .i64 f.disk.cs.low, .int .i64 f.disk.cs.high,
  .int .i64 f.spares, .list false 1 (f.primary.map (.int .i64)), .list false 3 (f.grown.map Defect.av), .sl true 1000041 1 0 0, .list true 0 [], .omap 22])
  (.agg [.int .i64 f.disk.heads, .int .i64 f.disk.turn, .list false 2 (f.disk.zones.map Zone.av), .int .i64 f.disk.headSkew, .int .i64 f.disk.cylSkew, .int .i64 f.disk.hs.low, .int .i64 f.disk.hs.high, .int .i64 f.disk.cs.low, .int .i64 f.disk.cs.high,
  .int .i64 f.spares, .list false 1 (f.primary.map (.int .i64)), .list false 3 (f.grown.map Defect.av), .sl true 1000041 1 0 0, .sl true 1000042 1 0 0, .omap 22]) :=
  .agg (.cons (.same _ _) (.cons (.same _ _) (.cons (.same _ _) (.cons (.same _ _) (.cons (.same _ _) (.cons (.same _ _) (.cons (.same _ _) (.cons (.same _ _) (.cons (.same _ _) (.cons (.same _ _) (.cons (.same _ _) (.cons (.same _ _) (.cons (.same _ _) (.cons (.nil _ _ _) (.same _ _)))))))))))))))

theorem GoC.name {E : Env} {X : Ctx} {nt : Nat} {c : Code} {Q : Exit → AS → Prop} {s : AS} (h : ∀ Q', Q' = Q → GoC E X nt c Q' s) : GoC E X nt c Q s := h Q rfl

theorem lay_spec (f : Format) (h1 : f.check = 0) (hd : f.disk.Good) (hsp : 0 ≤ f.spares ∧ f.spares ≤ 20) (hpr : f.primary.length ≤ 60) (hgl : f.grown.length ≤ 30) (hv : inVD f.grown) :
    Spec env 32 [f.av] (ofL .free []) (fun r H' => r = .tuple [.ptr 1000040 15 0 0, .int .i64 0] ∧ ∀ q ∈ planO f (layP f), H' q.1 = q.2) := by
  have hs1 : PSpec env 36 [f.av] (.int .i64 0) := by rw [← h1]; exact lCheck_spec f
  refine Spec.introR (nt := _) (rs := [_, _]) Tryz.func32 rfl rfl rfl rfl rfl [] (fun i h => ofL_keys _ i h) fun X hX => ?_
  repeat' (first | refine GoC.seq ?_ | refine GoC.block ?_ | refine GoC.region rfl ?_ | refine GoC.skip ?_ | refine GoC.cond_f rfl ?_ | refine GoOps.nil ?_ | refine GoOps.a rfl ?_ | refine GoOps.p (OpL.len rfl rfl) ?_ | refine GoOps.p (OpL.build rfl) ?_ | refine GoOps.m (OpL.boxw (by rfl) rfl rfl rfl rfl) ?_ | refine GoOps.m (OpL.makeMap rfl) ?_ | refine GoOps.p (OpL.call rfl rfl (hs1) rfl rfl) ?_)
  refine GoC.sub (AS.sub.nilcell 24 1000041 3 1 _ rfl rfl NilT.plan) (GoC.sub (AS.sub.nilcell 24 1000042 27 1 _ rfl rfl NilT.plan2) ?_)
  refine GoC.loop (G := Nat) (fun i => ⟨ofL .junk [(1, .ptr 1 12 0 0), (5, .ptr 1000040 15 0 0), (26, .list false 1 (f.primary.map (.int .i64))), (27, .int .i64 f.primary.length), (28, .int .i64 i)],
      ofL .free ((1, .arr 30 12 [f.av]) :: planO f ⟨[], [], tally (f.primary.take i)⟩), []⟩)
    (fun i => i ≤ f.primary.length) (fun i => f.primary.length - i) 0 (Nat.zero_le _) (by refine AS.sub.mk' _ _ (lk [(1000040, 24), (1000043, 22)]) rfl rfl ?_ ?_ <;> simp only [planO] <;> repeat' (first | exact True.intro | rfl | exact Wk.refl _ | exact ⟨_, rfl, Elems.all rfl⟩ | exact ⟨rfl, ents_noId (fun _ => rfl) (fun _ => rfl)⟩ | exact ⟨_, rfl, Elems.ren (Wks.refl _) rfl⟩ | refine And.intro ?_ ?_)) ?_
  intro i hi R hR
  simp only [planO] at hR ⊢
  have hb := tally_b (f.primary.take i) (f.primary.getD i default)
  have hlt : (f.primary.take i).length ≤ 60 := by simp; omega
  repeat' (first | refine GoC.seq ?_ | refine GoC.block ?_ | refine GoC.region rfl ?_ | refine GoC.skip ?_ | refine GoC.exit ?_ | (refine GoC.cond_d rfl ?_ ?_ <;> intro _ <;> try contradiction) | refine GoOps.nil ?_ | refine GoOps.a rfl ?_ | refine GoOps.p (OpL.idx rfl rfl (by with_reducible exact rfl) rfl rfl rfl rfl (by (first | assumption | omega))) ?_ | refine GoOps.p (OpL.add rfl rfl (by (first | assumption | omega))) ?_ | refine GoOps.p (OpL.lookup rfl rfl rfl rfl (by first | exact int_keyT | exact Defect.keyT) rfl rfl rfl) ?_ | refine GoOps.n (OpL.mapUpdate rfl rfl rfl rfl rfl (by first | exact int_keyT | exact Defect.keyT)) ?_)
  · refine hR (i + 1) _ (by omega) (by omega) ?_
    rw [tally_succ (by omega)]
    (refine AS.sub.mk' _ _ (lk []) rfl rfl ?_ ?_ <;> repeat' (first | exact True.intro | rfl | exact Wk.refl _ | exact ⟨_, rfl, Elems.all rfl⟩ | exact ⟨rfl, ents_noId (fun _ => rfl) (fun _ => rfl)⟩ | exact ⟨_, rfl, Elems.ren (Wks.refl _) rfl⟩ | refine And.intro ?_ ?_))
  · obtain rfl : i = f.primary.length := by omega
    rw [List.take_length]
    clear hR hb hlt
    have hz := pzones_spec f ⟨[], [], tally f.primary⟩ hd
    simp only [planO] at hz
    refine GoOps.m (OpL.callO (lk []) rfl rfl hz rfl rfl ⟨⟨_, rfl, Elems.ren (Wks.refl _) rfl⟩, ⟨_, rfl, Elems.mapped (α := Int) (f := AV.int .i64) (xs := []) (fun _ => rfl) rfl⟩, ⟨_, rfl, Elems.mapped (α := List Int) (f := intsL) (xs := []) (fun _ => rfl) rfl⟩, ⟨rfl, ents_noId (fun _ => rfl) (fun _ => rfl)⟩, trivial⟩ (by rfl) (by rfl)
      (post := [(1000040, _), (1000041, _), (1000042, _), (1000043, _)])
      (by exact ⟨⟨rfl, ⟨_, rfl, OutE.ren rfl⟩, .inl rfl⟩, ⟨rfl, ⟨_, rfl, OutE.mapped (f := AV.int .i64) fun _ => rfl⟩, .inl rfl⟩, ⟨rfl, ⟨_, rfl, OutE.mapped (f := intsL) fun _ => rfl⟩, .inl rfl⟩, ⟨rfl, ⟨rfl, ents_noId (fun _ => rfl) (fun _ => rfl)⟩, .inl rfl⟩, trivial⟩) (by rfl) (by rfl)) ?_
    repeat' (first | refine GoC.block ?_ | refine GoOps.nil ?_ | refine GoOps.a rfl ?_ | refine GoOps.p (OpL.len rfl rfl) ?_)
    have hzl : f.disk.zr.length = f.disk.zones.length := zrs_len _ _
    have hlen := hd.len
    refine GoC.loop (G := Nat) (fun i => ⟨ofL .junk [(1, .ptr 1 12 0 0), (5, .ptr 1000040 15 0 0), (41, .list true 2 (f.disk.zr.map Zr.av)), (42, .int .i64 f.disk.zr.length), (43, .int .i64 i)],
        ofL .free ((1, .arr 30 12 [f.av]) :: planO f ⟨(layN f i).1, (layN f i).2, tally f.primary⟩), []⟩)
      (fun i => i ≤ f.disk.zr.length) (fun i => f.disk.zr.length - i) 0 (Nat.zero_le _) (by simp only [planO]; (refine AS.sub.mk' _ _ (lk []) rfl rfl ?_ ?_ <;> repeat' (first | exact True.intro | rfl | exact Wk.refl _ | exact ⟨_, rfl, Elems.all rfl⟩ | exact ⟨rfl, ents_noId (fun _ => rfl) (fun _ => rfl)⟩ | exact ⟨_, rfl, Elems.ren (Wks.refl _) rfl⟩ | refine And.intro ?_ ?_))) ?_
    intro i hi R hR
    obtain ⟨hn1, hn2, hn3⟩ := layN_props hd i hi
    have hzb := zat_b hd i
    have hzb1 := zat_b hd (i + 1)
    have hzm := zat_mono hd i
    generalize hL : layN f i = L at *
    obtain ⟨bl, fr⟩ := L
    dsimp only at hn1 hn2 hn3
    simp only [planO] at hR ⊢
    repeat' (first | refine GoC.seq ?_ | refine GoC.block ?_ | refine GoC.region rfl ?_ | refine GoC.skip ?_ | refine GoC.exit ?_ | (refine GoC.cond_d rfl ?_ ?_ <;> intro _ <;> try contradiction) | refine GoOps.nil ?_ | refine GoOps.a rfl ?_ | refine GoOps.b rfl ?_ | refine GoOps.p (OpL.idx rfl rfl (by with_reducible exact rfl) rfl rfl rfl rfl (by (first | assumption | omega))) ?_ | refine GoOps.m (OpL.row rfl) ?_ | refine GoOps.n (OpL.st1 rfl) ?_)
    · have hi2 : i < f.disk.zr.length := by omega
      have hg : f.disk.zr.getD i default = ⟨zat f.disk i, zat f.disk (i + 1)⟩ := zrs_get (by omega)
      rw [hg]
      refine GoC.name fun Q4 hQ4 => ?_
      refine GoC.loop (G := Nat) (fun k => ⟨ofL .junk [(1, .ptr 1 12 0 0), (5, .ptr 1000040 15 0 0), (9, .ptr 9 2 0 0), (10, .sl true 1000003 1 0 (goodN (tally f.primary) (zat f.disk i) k).length), (11, .int .i64 (zat f.disk i + (k : Int))), (41, .list true 2 (f.disk.zr.map Zr.av)), (42, .int .i64 f.disk.zr.length), (43, .int .i64 i)],
          ofL .free ((1000003, .arr 3 1 ((goodN (tally f.primary) (zat f.disk i) k).map (.int .i64))) :: (9, .arr 90 2 [Zr.av ⟨zat f.disk i, zat f.disk (i + 1)⟩]) :: (1, .arr 30 12 [f.av]) :: planO f ⟨bl, fr, tally f.primary⟩), []⟩)
        (fun k => k ≤ (zat f.disk (i + 1) - zat f.disk i).toNat) (fun k => (zat f.disk (i + 1) - zat f.disk i).toNat - k) 0 (Nat.zero_le _) ((AS.sub.nilrow 10 1000003 3 1 rfl rfl).trans (by simp only [planO]; (refine AS.sub.mk' _ _ (lk []) rfl rfl ?_ ?_ <;> repeat' (first | exact True.intro | rfl | exact Wk.refl _ | exact Wk.of_eq (congrArg (AV.int .i64) (by omega)) | exact ⟨_, rfl, Elems.all rfl⟩ | exact ⟨_, rfl, Elems.mapped (fun _ => rfl) rfl⟩ | exact ⟨rfl, ents_noId (fun _ => rfl) (fun _ => rfl)⟩ | exact ⟨_, rfl, Elems.ren (Wks.refl _) rfl⟩ | refine And.intro ?_ ?_)))) ?_
      intro k hk R2 hR2
      have hgl := goodN_len (tally f.primary) (zat f.disk i) k
      simp only [planO] at hR2 ⊢
      repeat' (first | refine GoC.seq ?_ | refine GoC.block ?_ | refine GoC.region rfl ?_ | refine GoC.skip ?_ | refine GoC.exit ?_ | (refine GoC.cond_d rfl ?_ ?_ <;> intro _ <;> try contradiction) | refine GoOps.nil ?_ | refine GoOps.a rfl ?_ | refine GoOps.p (OpL.add rfl rfl (by (first | assumption | omega))) ?_ | refine GoOps.m (OpL.row rfl) ?_ | refine GoOps.m (OpL.app rfl rfl rfl rfl rfl rfl rfl rfl rfl rfl rfl (by (first | rfl | omega | (simp only [List.length_take, List.length_drop, List.length_map, List.length_append, List.length_cons, List.length_nil] <;> omega))) (by (first | rfl | omega | (simp only [List.length_take, List.length_drop, List.length_map, List.length_append, List.length_cons, List.length_nil] <;> omega))) (by (first | rfl | omega | (simp only [List.length_take, List.length_drop, List.length_map, List.length_append, List.length_cons, List.length_nil] <;> omega)))) ?_ | refine GoOps.p (OpL.lookup rfl rfl rfl rfl (by first | exact int_keyT | exact Defect.keyT) rfl rfl rfl) ?_)
      · rename_i hk2 hq
        dsimp only at hk2
        refine hR2 (k + 1) _ (by omega) (by omega) ?_
        rw [goodN_succ, if_pos hq]
        refine AS.sub.mk' _ _ (lk [(1000003, 65)]) rfl rfl ?_ ?_ <;> repeat' (first | exact True.intro | rfl | exact Wk.refl _ | exact Wk.of_eq (congrArg (AV.int .i64) (by omega)) | exact Wk.of_eq (congrArg (AV.sl _ _ _ _) (by (first | rfl | omega | (simp only [List.length_take, List.length_drop, List.length_map, List.length_append, List.length_cons, List.length_nil] <;> omega)))) | exact ⟨_, rfl, Elems.all rfl⟩ | exact ⟨_, rfl, Elems.mapped (fun _ => rfl) rfl⟩ | exact ⟨_, rfl, Elems.of_eq (by rw [List.map_append]; rfl) (noId_map (fun _ => rfl) _)⟩ | exact ⟨rfl, ents_noId (fun _ => rfl) (fun _ => rfl)⟩ | exact ⟨_, rfl, Elems.ren (Wks.refl _) rfl⟩ | refine And.intro ?_ ?_)
      · rename_i hk2 hq
        dsimp only at hk2
        refine hR2 (k + 1) _ (by omega) (by omega) ?_
        rw [goodN_succ, if_neg hq, List.append_nil]
        (refine AS.sub.mk' _ _ (lk []) rfl rfl ?_ ?_ <;> repeat' (first | exact True.intro | rfl | exact Wk.refl _ | exact Wk.of_eq (congrArg (AV.int .i64) (by omega)) | exact ⟨_, rfl, Elems.all rfl⟩ | exact ⟨_, rfl, Elems.mapped (fun _ => rfl) rfl⟩ | exact ⟨rfl, ents_noId (fun _ => rfl) (fun _ => rfl)⟩ | exact ⟨_, rfl, Elems.ren (Wks.refl _) rfl⟩ | refine And.intro ?_ ?_))
      · rename_i hk2
        dsimp only at hk2
        obtain rfl : k = (zat f.disk (i + 1) - zat f.disk i).toNat := by omega
        have hgz : goodN (tally f.primary) (zat f.disk i) (zat f.disk (i + 1) - zat f.disk i).toNat = goodZ f (f.disk.zr.getD i default) := by rw [hg]; rfl
        rw [hgz] at hgl ⊢
        have hnx : layN f (i + 1) = (bl ++ (goodZ f (f.disk.zr.getD i default)).take (cutOf f (goodZ f (f.disk.zr.getD i default))), fr ++ [(goodZ f (f.disk.zr.getD i default)).drop (cutOf f (goodZ f (f.disk.zr.getD i default)))]) := by
          rw [layN_succ f hi2, hL]; rfl
        generalize goodZ f (f.disk.zr.getD i default) = good at *
        have hcut : cutOf f good = (max 0 ((good.length : Int) - f.spares)).toNat := rfl
        generalize hcm : max 0 ((good.length : Int) - f.spares) = cut at hcut
        rw [hQ4]
        simp only [inBlockA, thenA, beq_self_eq_true, cond_true]
        apply GoC.sub
        · exact AS.sub.frz [1000003] [(10, .list true 1 (good.map (.int .i64)))] ⟨Fz.mp rfl rfl (fun _ => rfl) (by simp), trivial⟩
        have hcb : 0 ≤ cut ∧ cut ≤ good.length := by omega
        repeat' (first | refine GoC.seq ?_ | refine GoC.region rfl ?_ | refine GoC.draw env_mixed ?_ | refine GoOps.nil ?_ | refine GoD.done rfl rfl (by kernel_rfl) ?_ | refine GoOps.a rfl ?_ | refine GoD.a rfl ?_ | refine GoOps.p (OpL.len rfl rfl) ?_ | refine GoOps.p (OpL.add rfl rfl (by (first | assumption | omega))) ?_ | refine GoOps.p (OpL.sub rfl rfl (by (first | assumption | omega))) ?_ | refine GoD.p (OpL.sto rfl rfl rfl rfl rfl (by (first | assumption | omega))) ?_ | refine GoD.p (OpL.sfr rfl rfl rfl rfl rfl (by (first | assumption | omega))) ?_ | refine GoD.m (OpL.row rfl) ?_ | refine GoD.m (OpL.app rfl rfl rfl rfl rfl rfl rfl rfl rfl rfl rfl (by (first | rfl | omega | (simp only [List.length_take, List.length_drop, List.length_map, List.length_append, List.length_cons, List.length_nil] <;> omega))) (by (first | rfl | omega | (simp only [List.length_take, List.length_drop, List.length_map, List.length_append, List.length_cons, List.length_nil] <;> omega))) (by (first | rfl | omega | (simp only [List.length_take, List.length_drop, List.length_map, List.length_append, List.length_cons, List.length_nil] <;> omega)))) ?_ | refine GoD.m (OpL.appl rfl rfl rfl rfl rfl rfl rfl rfl rfl (fun _ => rfl) (by (first | rfl | omega | (simp only [List.length_take, List.length_drop, List.length_map, List.length_append, List.length_cons, List.length_nil] <;> omega))) (by (first | rfl | omega | (simp only [List.length_take, List.length_drop, List.length_map, List.length_append, List.length_cons, List.length_nil] <;> omega)))) ?_ | refine GoD.n (OpL.st1 rfl) ?_ | refine GoOps.p (OpL.max2 rfl rfl) ?_)
        rw [hcut] at hnx
        rw [hcm]
        refine hR (i + 1) _ (by omega) (by omega) ?_
        rw [hnx]
        have e1 : (bl ++ good.take cut.toNat).length = (bl.map (AV.int .i64)).length + ((good.take cut.toNat).map (AV.int .i64)).length := by simp
        have e2 : (fr ++ [good.drop cut.toNat]).length = (fr.map intsL).length + 1 := by simp
        dsimp only
        rw [e1, e2]
        refine AS.sub.mk' _ _ (lk [(1000041, 80), (1000042, 92)]) rfl rfl ?_ ?_ <;> repeat' (first | exact True.intro | rfl | exact Wk.refl _ | exact ⟨_, rfl, Elems.all rfl⟩ | exact ⟨_, rfl, Elems.of_eq (by rw [List.map_append]; rfl) (noId_map (fun _ => rfl) _)⟩ | exact ⟨_, rfl, Elems.of_eq List.map_append.symm (noId_map (fun _ => rfl) _)⟩ | exact ⟨rfl, ents_noId (fun _ => rfl) (fun _ => rfl)⟩ | exact ⟨_, rfl, Elems.ren (Wks.refl _) rfl⟩ | refine And.intro ?_ ?_)
    · obtain rfl : i = f.disk.zr.length := by omega
      clear hR hn1 hn2 hn3 hzb hzb1 hzm
      have hpl : planO f (plan0 f) = planO f ⟨bl, fr, tally f.primary⟩ := by rw [plan0, hL]
      have hgood := plan0_good (f := f) hd
      refine GoOps.sub (AS.sub.frz [98] [(98, .list false 1 ([f.grown].map defs))] ⟨Fz.mp (f := defs) rfl rfl (fun _ => rfl) (by (first | rfl | omega | (simp only [List.length_take, List.length_drop, List.length_map, List.length_append, List.length_cons, List.length_nil] <;> omega))), trivial⟩) ?_
      have hc : [f.grown].flatten = f.grown := by simp
      have hcol := collect_spec [f.grown] (by simp) (by simp; omega)
      rw [hc] at hcol
      refine GoOps.m (OpL.callO (lk [(6, 1000005), (7, 1000006)]) rfl rfl hcol rfl rfl trivial (by rfl) (by rfl)
        (post := [(1000005, _), (1000006, _)])
        (by exact ⟨⟨rfl, ⟨rfl, ents_noId (fun _ => rfl) (fun _ => rfl)⟩, .inr rfl⟩, ⟨rfl, ⟨rfl, ents_noId (fun _ => rfl) (fun _ => rfl)⟩, .inr rfl⟩, trivial⟩) (by rfl) (by rfl)) ?_
      refine GoOps.m (OpL.callO (lk []) rfl rfl (sortedO_spec (l := f.grown) (by omega) hv) rfl rfl (by exact ⟨⟨rfl, ents_noId (fun _ => rfl) (fun _ => rfl)⟩, ⟨rfl, ents_noId (fun _ => rfl) (fun _ => rfl)⟩, trivial⟩) (by rfl) (by rfl)
        (post := [(1000005, _), (1000006, _), (1000014, _)])
        (by exact ⟨⟨rfl, ⟨rfl, ents_noId (fun _ => rfl) (fun _ => rfl)⟩, .inl rfl⟩, ⟨rfl, ⟨rfl, ents_noId (fun _ => rfl) (fun _ => rfl)⟩, .inl rfl⟩, ⟨rfl, ⟨_, rfl, OutE.mapped fun _ => rfl⟩, .inr rfl⟩, trivial⟩) (by rfl) (by rfl)) ?_
      repeat' (first | refine GoC.seq ?_ | refine GoC.region rfl ?_ | refine GoOps.nil ?_ | refine GoOps.a rfl ?_)
      have hvl : inVD (lDone f.grown) := fun d h => hv d (lDone_mem hv h)
      have hl30 : (lDone f.grown).length ≤ 30 := Nat.le_trans (lDone_len hv) hgl
      refine GoOps.m (OpL.callO (lk [(1000003, 1000014)]) rfl rfl (SortStable_spec true (lDone f.grown) (by omega) hvl (lDone_inc hv)) rfl rfl (by exact ⟨⟨_, rfl, Elems.mapped (fun _ => rfl) rfl⟩, trivial⟩) (by rfl) (by rfl)
        (post := [(1000014, HO.arr 36 3 ((stSort (lDone f.grown)).map Defect.av))])
        (by exact ⟨⟨rfl, ⟨_, rfl, OutE.mapped fun _ => rfl⟩, .inl rfl⟩, trivial⟩) (by rfl) (by rfl)) ?_
      have hml : (msgs f).length = (lDone f.grown).length := stSort_len _
      rw [← hml]
      repeat' (first | refine GoC.seq ?_ | refine GoC.block ?_ | refine GoC.region rfl ?_ | refine GoOps.nil ?_ | refine GoOps.a rfl ?_ | refine GoOps.p (OpL.len_s rfl rfl) ?_)
      apply GoC.sub
      · exact AS.sub.frz [1000014] [(103, .list true 3 ((msgs f).map Defect.av))] ⟨Fz.mp rfl rfl (fun _ => rfl) (by simp [msgs]), trivial⟩
      have hml2 : (msgs f).length ≤ 30 := by omega
      refine GoC.loop (G := Nat) (fun j => ⟨ofL .junk [(5, .ptr 1000040 15 0 0), (103, .list true 3 ((msgs f).map Defect.av)), (104, .int .i64 (msgs f).length), (105, .int .i64 j)],
          ofL .free (planO f (growL f (plan0 f) ((msgs f).take j))), []⟩)
        (fun j => j ≤ (msgs f).length) (fun j => (msgs f).length - j) 0 (Nat.zero_le _) (by
          rw [List.take_zero, show growL f (plan0 f) [] = plan0 f from rfl, hpl]
          simp only [planO]
          (refine AS.sub.mk' _ _ (lk []) rfl rfl ?_ ?_ <;> repeat' (first | exact True.intro | rfl | exact Wk.refl _ | exact ⟨_, rfl, Elems.mapped (fun _ => rfl) rfl⟩ | exact ⟨rfl, ents_noId (fun _ => rfl) (fun _ => rfl)⟩ | exact ⟨_, rfl, Elems.ren (Wks.refl _) rfl⟩ | refine And.intro ?_ ?_))) ?_
      intro j hj R2 hR2
      have hgj := growL_good hgood (msgs f) j hj
      have hgs : j < (msgs f).length → growL f (plan0 f) ((msgs f).take (j + 1)) = (growL f (plan0 f) ((msgs f).take j)).grow f.disk ((msgs f).getD j default).sector := fun h => growL_succ f (plan0 f) h
      generalize hgp : growL f (plan0 f) ((msgs f).take j) = p at *
      have hgrow := grow_spec f p ((msgs f).getD j default).sector hd (hgj.good (by omega))
      simp only [planO] at hR2 hgrow ⊢
      repeat' (first | refine GoC.seq ?_ | refine GoC.block ?_ | refine GoC.region rfl ?_ | refine GoC.skip ?_ | refine GoC.exit ?_ | refine GoC.ret ?_ | (refine GoC.cond_d rfl ?_ ?_ <;> intro _ <;> try contradiction) | refine GoOps.nil ?_ | refine GoOps.a rfl ?_ | refine GoOps.b rfl ?_ | refine GoOps.p (OpL.idx rfl rfl (by with_reducible exact rfl) rfl rfl rfl rfl (by (first | assumption | omega))) ?_ | refine GoOps.n (OpL.st1 rfl) ?_)
      · refine GoOps.m (OpL.callO (lk []) rfl rfl hgrow rfl rfl ⟨⟨_, rfl, Elems.ren (Wks.refl _) rfl⟩, ⟨_, rfl, Elems.mapped (fun _ => rfl) rfl⟩, ⟨_, rfl, Elems.mapped (fun _ => rfl) rfl⟩, ⟨rfl, ents_noId (fun _ => rfl) (fun _ => rfl)⟩, trivial⟩ (by rfl) (by rfl)
          (post := [(1000040, _), (1000041, _), (1000042, _), (1000043, _)])
          (by exact ⟨⟨rfl, ⟨_, rfl, OutE.ren rfl⟩, .inl rfl⟩, ⟨rfl, ⟨_, rfl, OutE.mapped fun _ => rfl⟩, .inl rfl⟩, ⟨rfl, ⟨_, rfl, OutE.mapped fun _ => rfl⟩, .inl rfl⟩, ⟨rfl, ⟨rfl, ents_noId (fun _ => rfl) (fun _ => rfl)⟩, .inl rfl⟩, trivial⟩) (by rfl) (by rfl)) ?_
        repeat' (first | refine GoC.region rfl ?_ | refine GoOps.nil ?_ | refine GoOps.a rfl ?_ | refine GoOps.p (OpL.add rfl rfl (by (first | assumption | omega))) ?_)
        refine hR2 (j + 1) _ (by omega) (by omega) ?_
        rw [hgs (by omega)]
        (refine AS.sub.mk' _ _ (lk []) rfl rfl ?_ ?_ <;> repeat' (first | exact True.intro | rfl | exact Wk.refl _ | exact ⟨_, rfl, Elems.mapped (fun _ => rfl) rfl⟩ | exact ⟨rfl, ents_noId (fun _ => rfl) (fun _ => rfl)⟩ | exact ⟨_, rfl, Elems.ren (Wks.refl _) rfl⟩ | refine And.intro ?_ ?_))
      · obtain rfl : j = (msgs f).length := by omega
        rw [List.take_length] at hgp
        have hlp : layP f = p := hgp
        rw [hlp]
        refine FnPost.by (.inr rfl) (AS.sub.refl _) (RetOK.hv rfl (RetOK.hv rfl RetOK.nil)) ⟨rfl, fun q hq => ?_⟩
        simp only [List.mem_cons, List.not_mem_nil, or_false] at hq
        rcases hq with rfl | rfl | rfl | rfl <;> rfl
end Go.Proofs.YtfbjoamdkieamaaGreat.AM
end

section
set_option linter.unusedSimpArgs false
set_option linter.unusedVariables false
set_option maxHeartbeats 8000000
namespace Go.Proofs.YtfbjoamdkieamaaGreat.AM
open Go Go.Proofs Go.Sort

def planD : List (Nat × HO) := [(1000040, .dead), (1000041, .dead), (1000042, .dead), (1000043, .dead)]
/-- The plan is not asked again. -/
theorem AS.sub.drop {s : AS} {t : Tmp} {x : AV} (ht : s.t t = x) (hx : x.noId = true) (hr : ∀ ρ, x.ren ρ = x) (hi : ∀ S, x.idsIn S = true) (hk : keptOK s.k (lk []) (planD.map (·.1)) = true) : s.sub ⟨ofL .junk [(t, x)], ofL .free planD, s.k⟩ :=
  AS.sub.mk' _ _ (lk []) rfl hk ⟨⟨by rw [ht, hr]; exact Wk.refl _, hi _⟩, trivial⟩ trivial

def Plan.lost (p : Plan) : List Int := ((List.range p.blocks.length).filter fun i => decide (p.blocks.getD i default = -1)).map fun (i : Nat) => (i : Int)
def Plan.spares (p : Plan) : List Int := p.free.map fun l => (l.length : Int)
def Plan.secs (p : Plan) : List Int := (p.given.map (·.1)).mergeSort fun x y => decide (x ≤ y)
def Plan.left (p : Plan) : Int := sumOf (fun l => (l.length : Int)) p.free

theorem blocks_spec (f : Format) (p : Plan) : Spec env 42 [.ptr 1000040 15 0 0] (ofL .free (planO f p)) (fun r H' => r = .list true 1 (p.blocks.map (.int .i64)) ∧ ∀ q ∈ planD, H' q.1 = q.2) := by
  refine Spec.introR (nt := _) (rs := [_]) Tryz.func42 rfl rfl rfl rfl rfl [1000040, 1000041, 1000042, 1000043] (fun i h => ofL_keys _ i h) fun X hX => ?_
  simp only [planO]
  repeat' (first | refine GoC.seq ?_ | refine GoC.region rfl ?_ | refine GoC.ret ?_ | refine GoOps.nil ?_ | refine GoOps.a rfl ?_)
  refine FnPost.by (.inr rfl) ((AS.sub.frz [1000041] [(2, .list true 1 (p.blocks.map (.int .i64)))] ⟨Fz.mp rfl rfl (fun _ => rfl) (by simp), trivial⟩).trans (AS.sub.drop (t := 2) rfl rfl (fun _ => rfl) (fun _ => rfl) rfl)) (RetOK.hv rfl RetOK.nil) ⟨rfl, fun q hq => ?_⟩
  simp only [planD, List.mem_cons, List.not_mem_nil, or_false] at hq
  rcases hq with rfl | rfl | rfl | rfl <;> rfl

theorem spares_spec (f : Format) (p : Plan) (hl : p.free.length ≤ 10000) : Spec env 35 [.ptr 1000040 15 0 0] (ofL .free (planO f p)) (fun r H' => r = .list true 1 (p.spares.map (.int .i64)) ∧ ∀ q ∈ planD, H' q.1 = q.2) := by
  refine Spec.introR (nt := _) (rs := [_]) Tryz.func35 rfl rfl rfl rfl rfl [1000040, 1000041, 1000042, 1000043] (fun i h => ofL_keys _ i h) fun X hX => ?_
  simp only [planO]
  repeat' (first | refine GoC.seq ?_ | refine GoC.block ?_ | refine GoC.region rfl ?_ | refine GoOps.nil ?_ | refine GoOps.a rfl ?_ | refine GoOps.p (OpL.len_s rfl rfl) ?_)
  refine GoC.loop (G := Nat) (fun i => ⟨ofL .junk [(3, .sl true 1000003 1 0 i), (9, .sl true 1000042 1 0 p.free.length), (10, .int .i64 p.free.length), (11, .int .i64 i)],
      ofL .free (planO f p ++ [(1000003, .arr 3 1 (((p.free.take i).map fun l => (l.length : Int)).map (.int .i64)))]), [1000040, 1000041, 1000042, 1000043]⟩)
    (fun i => i ≤ p.free.length) (fun i => p.free.length - i) 0 (Nat.zero_le _) ((AS.sub.nilrow 3 1000003 3 1 rfl rfl).trans (by simp only [planO, List.cons_append, List.nil_append]; (refine AS.sub.mk' _ _ (lk []) rfl rfl ?_ ?_ <;> repeat' (first | exact True.intro | rfl | exact Wk.refl _ | exact ⟨_, rfl, Elems.all rfl⟩ | exact ⟨_, rfl, Elems.mapped (fun _ => rfl) rfl⟩ | exact ⟨rfl, ents_noId (fun _ => rfl) (fun _ => rfl)⟩ | exact ⟨_, rfl, Elems.ren (Wks.refl _) rfl⟩ | refine And.intro ?_ ?_)))) ?_
  intro i hi R hR
  have hlt : ((p.free.take i).map fun l => (l.length : Int)).length = i := by simp; omega
  have hsu : i < p.free.length → (p.free.take (i + 1)).map (fun l => (l.length : Int)) = (p.free.take i).map (fun l => (l.length : Int)) ++ [((p.free.getD i default).length : Int)] := fun h => by rw [take_snoc h, List.map_append]; rfl
  simp only [planO, List.cons_append, List.nil_append] at hR ⊢
  repeat' (first | refine GoC.seq ?_ | refine GoC.block ?_ | refine GoC.region rfl ?_ | refine GoC.skip ?_ | refine GoC.exit ?_ | refine GoC.ret ?_ | (refine GoC.cond_d rfl ?_ ?_ <;> intro _ <;> try contradiction) | refine GoOps.nil ?_ | refine GoOps.a rfl ?_ | refine GoOps.p (OpL.len rfl rfl) ?_ | refine GoOps.p (OpL.idx_s rfl rfl (by with_reducible exact rfl) rfl rfl rfl rfl rfl (by (first | assumption | omega))) ?_ | refine GoOps.p (OpL.add rfl rfl (by (first | assumption | omega))) ?_ | refine GoOps.m (OpL.row rfl) ?_ | refine GoOps.m (OpL.app rfl rfl rfl rfl rfl rfl rfl rfl rfl rfl rfl (by (first | rfl | omega | (simp only [List.length_take, List.length_drop, List.length_map, List.length_append, List.length_cons, List.length_nil] <;> omega))) (by (first | rfl | omega | (simp only [List.length_take, List.length_drop, List.length_map, List.length_append, List.length_cons, List.length_nil] <;> omega))) (by (first | rfl | omega | (simp only [List.length_take, List.length_drop, List.length_map, List.length_append, List.length_cons, List.length_nil] <;> omega)))) ?_ | refine GoOps.p (OpL.ldm rfl rfl (by (first | assumption | omega)) rfl (fun _ => rfl)) ?_)
  · refine hR (i + 1) _ (by omega) (by omega) ?_
    rw [hsu (by omega)]
    rw [Nat.zero_add i]
    refine AS.sub.mk' _ _ (lk [(1000003, 19)]) rfl rfl ?_ ?_ <;> repeat' (first | exact True.intro | rfl | exact Wk.refl _ | exact Wk.of_eq (congrArg (AV.sl _ _ _ _) (by (first | rfl | omega | (simp only [List.length_take, List.length_drop, List.length_map, List.length_append, List.length_cons, List.length_nil] <;> omega)))) | exact ⟨_, rfl, Elems.mapped (fun _ => rfl) rfl⟩ | exact ⟨_, rfl, Elems.of_eq (by rw [List.map_append]; rfl) (noId_map (fun _ => rfl) _)⟩ | exact ⟨rfl, ents_noId (fun _ => rfl) (fun _ => rfl)⟩ | exact ⟨_, rfl, Elems.ren (Wks.refl _) rfl⟩ | refine And.intro ?_ ?_)
  · obtain rfl : i = p.free.length := by omega
    rw [List.take_length] at *
    refine FnPost.by (.inr rfl) ((AS.sub.frz [1000003] [(2, .list true 1 (p.spares.map (.int .i64)))] ⟨Fz.mp rfl rfl (fun _ => rfl) (by simp [Plan.spares]), trivial⟩).trans (AS.sub.drop (t := 2) rfl rfl (fun _ => rfl) (fun _ => rfl) rfl)) (RetOK.hv rfl RetOK.nil) ⟨rfl, fun q hq => ?_⟩
    simp only [planD, List.mem_cons, List.not_mem_nil, or_false] at hq
    rcases hq with rfl | rfl | rfl | rfl <;> rfl

def lostN (b : List Int) (n : Nat) : List Int := ((List.range n).filter fun i => decide (b.getD i default = -1)).map fun (i : Nat) => (i : Int)
theorem lostN_succ (b : List Int) (n : Nat) : lostN b (n + 1) = lostN b n ++ (if b.getD n default = -1 then [(n : Int)] else []) := by
  unfold lostN
  rw [List.range_succ, List.filter_append, List.map_append]
  simp only [List.filter_cons, List.filter_nil, decide_eq_true_eq]
  split <;> rfl
theorem lostN_len (b : List Int) (n : Nat) : (lostN b n).length ≤ n := by
  have := List.length_filter_le (fun i => decide (b.getD i default = -1)) (List.range n)
  simpa [lostN] using this

theorem lost_spec (f : Format) (p : Plan) (hl : p.blocks.length ≤ 10000) : Spec env 47 [.ptr 1000040 15 0 0] (ofL .free (planO f p)) (fun r H' => r = .list true 1 (p.lost.map (.int .i64)) ∧ ∀ q ∈ planD, H' q.1 = q.2) := by
  refine Spec.introR (nt := _) (rs := [_]) Tryz.func47 rfl rfl rfl rfl rfl [1000040, 1000041, 1000042, 1000043] (fun i h => ofL_keys _ i h) fun X hX => ?_
  simp only [planO]
  repeat' (first | refine GoC.seq ?_ | refine GoC.block ?_ | refine GoC.region rfl ?_ | refine GoOps.nil ?_ | refine GoOps.a rfl ?_ | refine GoOps.p (OpL.len_s rfl rfl) ?_)
  refine GoC.loop (G := Nat) (fun i => ⟨ofL .junk [(3, .sl true 1000003 1 0 (lostN p.blocks i).length), (9, .sl true 1000041 1 0 p.blocks.length), (10, .int .i64 p.blocks.length), (11, .int .i64 i)],
      ofL .free (planO f p ++ [(1000003, .arr 3 1 ((lostN p.blocks i).map (.int .i64)))]), [1000040, 1000041, 1000042, 1000043]⟩)
    (fun i => i ≤ p.blocks.length) (fun i => p.blocks.length - i) 0 (Nat.zero_le _) ((AS.sub.nilrow 3 1000003 3 1 rfl rfl).trans (by simp only [planO, List.cons_append, List.nil_append]; (refine AS.sub.mk' _ _ (lk []) rfl rfl ?_ ?_ <;> repeat' (first | exact True.intro | rfl | exact Wk.refl _ | exact ⟨_, rfl, Elems.all rfl⟩ | exact ⟨_, rfl, Elems.mapped (fun _ => rfl) rfl⟩ | exact ⟨rfl, ents_noId (fun _ => rfl) (fun _ => rfl)⟩ | exact ⟨_, rfl, Elems.ren (Wks.refl _) rfl⟩ | refine And.intro ?_ ?_)))) ?_
  intro i hi R hR
  have hln := lostN_len p.blocks i
  simp only [planO, List.cons_append, List.nil_append] at hR ⊢
  repeat' (first | refine GoC.seq ?_ | refine GoC.block ?_ | refine GoC.region rfl ?_ | refine GoC.skip ?_ | refine GoC.exit ?_ | refine GoC.ret ?_ | (refine GoC.cond_d rfl ?_ ?_ <;> intro _ <;> try contradiction) | refine GoOps.nil ?_ | refine GoOps.a rfl ?_ | refine GoOps.p (OpL.idx_s rfl rfl (by with_reducible exact rfl) rfl rfl rfl rfl rfl (by (first | assumption | omega))) ?_ | refine GoOps.p (OpL.add rfl rfl (by (first | assumption | omega))) ?_ | refine GoOps.m (OpL.row rfl) ?_ | refine GoOps.m (OpL.app rfl rfl rfl rfl rfl rfl rfl rfl rfl rfl rfl (by (first | rfl | omega | (simp only [List.length_take, List.length_drop, List.length_map, List.length_append, List.length_cons, List.length_nil] <;> omega))) (by (first | rfl | omega | (simp only [List.length_take, List.length_drop, List.length_map, List.length_append, List.length_cons, List.length_nil] <;> omega))) (by (first | rfl | omega | (simp only [List.length_take, List.length_drop, List.length_map, List.length_append, List.length_cons, List.length_nil] <;> omega)))) ?_ | refine GoOps.p (OpL.ldm rfl rfl (by (first | assumption | omega)) rfl (fun _ => rfl)) ?_)
  · rename_i h1 h2
    refine hR (i + 1) _ (by omega) (by omega) ?_
    rw [lostN_succ, if_pos (by rwa [Nat.zero_add i] at h2)]
    refine AS.sub.mk' _ _ (lk [(1000003, 21)]) rfl rfl ?_ ?_ <;> repeat' (first | exact True.intro | rfl | exact Wk.refl _ | exact Wk.of_eq (congrArg (AV.sl _ _ _ _) (by (first | rfl | omega | (simp only [List.length_take, List.length_drop, List.length_map, List.length_append, List.length_cons, List.length_nil] <;> omega)))) | exact ⟨_, rfl, Elems.mapped (fun _ => rfl) rfl⟩ | exact ⟨_, rfl, Elems.of_eq (by rw [List.map_append]; rfl) (noId_map (fun _ => rfl) _)⟩ | exact ⟨rfl, ents_noId (fun _ => rfl) (fun _ => rfl)⟩ | exact ⟨_, rfl, Elems.ren (Wks.refl _) rfl⟩ | refine And.intro ?_ ?_)
  · rename_i h1 h2
    refine hR (i + 1) _ (by omega) (by omega) ?_
    rw [lostN_succ, if_neg (by rwa [Nat.zero_add i] at h2), List.append_nil]
    (refine AS.sub.mk' _ _ (lk []) rfl rfl ?_ ?_ <;> repeat' (first | exact True.intro | rfl | exact Wk.refl _ | exact ⟨_, rfl, Elems.mapped (fun _ => rfl) rfl⟩ | exact ⟨rfl, ents_noId (fun _ => rfl) (fun _ => rfl)⟩ | exact ⟨_, rfl, Elems.ren (Wks.refl _) rfl⟩ | refine And.intro ?_ ?_))
  · obtain rfl : i = p.blocks.length := by omega
    refine FnPost.by (.inr rfl) ((AS.sub.frz [1000003] [(2, .list true 1 (p.lost.map (.int .i64)))] ⟨Fz.mp rfl rfl (fun _ => rfl) (by simp [Plan.lost, lostN]), trivial⟩).trans (AS.sub.drop (t := 2) rfl rfl (fun _ => rfl) (fun _ => rfl) rfl)) (RetOK.hv rfl RetOK.nil) ⟨rfl, fun q hq => ?_⟩
    simp only [planD, List.mem_cons, List.not_mem_nil, or_false] at hq
    rcases hq with rfl | rfl | rfl | rfl <;> rfl

def pickI (es : List (Int × Int)) (seen : List Nat) : List Int := seen.map fun j => (es.getD j default).1
theorem pickI_all {es : List (Int × Int)} {seen : List Nat} (hn : seen.Nodup) (h : ∀ x ∈ seen, x < es.length) (h' : ∀ x, x < es.length → x ∈ seen) : (pickI es seen).Perm (es.map (·.1)) := by
  have h1 := (perm_range es.length seen hn h h').map fun j => (es.getD j default).1
  have h2 : (List.range es.length).map (fun j => (es.getD j default).1) = es.map (·.1) := by
    apply List.ext_getElem (by simp)
    intro i hi1 hi2
    simp only [List.length_map, List.length_range] at hi1
    rw [List.getElem_map, List.getElem_map, List.getElem_range, gd hi1]
  rwa [h2] at h1
theorem sortI_eq {l l' : List Int} (h : l.Perm l') : (l.mergeSort fun x y => decide (x ≤ y)) = l'.mergeSort fun x y => decide (x ≤ y) := by
  have tr : ∀ a b c : Int, decide (a ≤ b) = true → decide (b ≤ c) = true → decide (a ≤ c) = true := fun a b c h h' => by simp at *; omega
  have to : ∀ a b : Int, (decide (a ≤ b) || decide (b ≤ a)) = true := fun a b => by simp; omega
  have h1 := List.pairwise_mergeSort (le := fun x y : Int => decide (x ≤ y)) tr to l
  have h2 := List.pairwise_mergeSort (le := fun x y : Int => decide (x ≤ y)) tr to l'
  refine List.Perm.eq_of_pairwise (fun a b _ _ h h' => by simp at h h'; omega) h1 h2 ?_
  exact (List.mergeSort_perm _ _).trans (h.trans (List.mergeSort_perm _ _).symm)

theorem sectors_spec (f : Format) (p : Plan) (hl : p.given.length ≤ 10000) : Spec env 34 [.ptr 1000040 15 0 0] (ofL .free (planO f p)) (fun r H' => r = .list true 1 (p.secs.map (.int .i64)) ∧ ∀ q ∈ planD, H' q.1 = q.2) := by
  refine Spec.introR (nt := _) (rs := [_]) Tryz.func34 rfl rfl rfl rfl rfl [1000040, 1000041, 1000042, 1000043] (fun i h => ofL_keys _ i h) fun X hX => ?_
  simp only [planO]
  repeat' (first | refine GoC.seq ?_ | refine GoC.region rfl ?_ | refine GoOps.nil ?_ | refine GoOps.a rfl ?_)
  refine GoOps.m (OpL.range rfl rfl rfl rfl) ?_
  repeat' (first | refine GoC.block ?_ | refine GoOps.nil ?_)
  refine GoC.loop (G := List Nat) (fun seen => ⟨ofL .junk [(3, .sl true 1000003 1 0 (pickI p.given seen).length), (9, .ptr 9 0 0 0)],
      ofL .free ((9, .iter 1000043 p.given.length seen) :: (planO f p ++ [(1000003, .arr 3 1 ((pickI p.given seen).map (.int .i64)))])), [1000040, 1000041, 1000042, 1000043]⟩)
    (fun seen => seen.Nodup ∧ ∀ x ∈ seen, x < p.given.length) (fun seen => p.given.length - seen.length) [] ⟨List.nodup_nil, fun x h => by simp at h⟩ ((AS.sub.nilrow 3 1000003 3 1 rfl rfl).trans (by simp only [planO, List.cons_append, List.nil_append]; (refine AS.sub.mk' _ _ (lk []) rfl rfl ?_ ?_ <;> repeat' (first | exact True.intro | rfl | exact Wk.refl _ | exact ⟨_, rfl, Elems.all rfl⟩ | exact ⟨_, rfl, Elems.mapped (fun _ => rfl) rfl⟩ | exact ⟨rfl, rfl⟩ | exact ⟨rfl, ents_noId (fun _ => rfl) (fun _ => rfl)⟩ | exact ⟨_, rfl, Elems.ren (Wks.refl _) rfl⟩ | refine And.intro ?_ ?_)))) ?_
  rintro seen ⟨hn, hlt⟩ R hR
  try dsimp only at *
  have hlen := nodup_le _ _ hn hlt
  have hpl : (pickI p.given seen).length = seen.length := by simp [pickI]
  simp only [planO, List.cons_append, List.nil_append] at hR ⊢
  refine GoC.seq (GoC.region rfl ?_)
  refine GoOps.next rfl rfl rfl rfl (fun hall => ?_) (fun j q hq hj => ?_)
  · repeat' (first | refine GoC.seq ?_ | refine GoC.region rfl ?_ | refine GoC.exit ?_ | refine GoC.cond_f rfl ?_ | refine GoOps.nil ?_ | refine GoOps.a rfl ?_)
    have hpm := pickI_all hn hlt hall
    refine GoOps.m (OpL.sortI rfl rfl rfl rfl (by omega)) ?_
    have hse : ((pickI p.given seen).mergeSort fun x y => decide (x ≤ y)) = p.secs := sortI_eq hpm
    have hsl : p.secs.length = (pickI p.given seen).length := by rw [← hse]; simp
    rw [hse]
    repeat' (first | refine GoC.seq ?_ | refine GoC.region rfl ?_ | refine GoC.ret ?_ | refine GoOps.nil ?_ | refine GoOps.a rfl ?_)
    refine FnPost.by (.inr rfl) ((AS.sub.frz [1000003] [(2, .list true 1 (p.secs.map (.int .i64)))] ⟨Fz.mp rfl rfl (fun _ => rfl) (by simp [hsl]), trivial⟩).trans (AS.sub.drop (t := 2) rfl rfl (fun _ => rfl) (fun _ => rfl) rfl)) (RetOK.hv rfl RetOK.nil) ⟨rfl, fun q hq => ?_⟩
    simp only [planD, List.mem_cons, List.not_mem_nil, or_false] at hq
    rcases hq with rfl | rfl | rfl | rfl <;> rfl
  · have hjl : j < p.given.length := (List.getElem?_eq_some_iff.1 hq).1
    have hn2 : (j :: seen).Nodup := List.nodup_cons.2 ⟨hj, hn⟩
    have hlen2 := nodup_le p.given.length (j :: seen) hn2 fun x hx => by
      rcases List.mem_cons.1 hx with rfl | hx
      · exact hjl
      · exact hlt x hx
    simp only [List.length_cons] at hlen2
    have hpk : pickI p.given (seen ++ [j]) = pickI p.given seen ++ [q.1] := by
      rw [pickI, List.map_append]
      simp only [List.map_cons, List.map_nil]
      rw [List.getD_eq_getElem?_getD, hq]
      rfl
    repeat' (first | refine GoC.seq ?_ | refine GoC.block ?_ | refine GoC.region rfl ?_ | refine GoC.skip ?_ | refine GoC.cond_t rfl ?_ | refine GoOps.nil ?_ | refine GoOps.a rfl ?_)
    refine GoOps.p (OpL.entry (a := q.1) (x := q.2) rfl rfl rfl rfl hq) ?_
    repeat' (first | refine GoC.region rfl ?_ | refine GoOps.nil ?_ | refine GoOps.a rfl ?_ | refine GoOps.m (OpL.row rfl) ?_ | refine GoOps.m (OpL.app rfl rfl rfl rfl rfl rfl rfl rfl rfl rfl rfl (by (first | rfl | omega | (simp only [List.length_take, List.length_drop, List.length_map, List.length_append, List.length_cons, List.length_nil] <;> omega))) (by (first | rfl | omega | (simp only [List.length_take, List.length_drop, List.length_map, List.length_append, List.length_cons, List.length_nil] <;> omega))) (by (first | rfl | omega | (simp only [List.length_take, List.length_drop, List.length_map, List.length_append, List.length_cons, List.length_nil] <;> omega)))) ?_)
    refine hR (seen ++ [j]) _ ⟨?_, fun x hx => ?_⟩ (by simp only [List.length_append, List.length_cons, List.length_nil]; omega) (by rw [hpk]; refine AS.sub.mk' _ _ (lk [(1000003, 17)]) rfl rfl ?_ ?_ <;> repeat' (first | exact True.intro | rfl | exact Wk.refl _ | exact Wk.of_eq (congrArg (AV.sl _ _ _ _) (by (first | rfl | omega | (simp only [List.length_take, List.length_drop, List.length_map, List.length_append, List.length_cons, List.length_nil] <;> omega)))) | exact ⟨_, rfl, Elems.mapped (fun _ => rfl) rfl⟩ | exact ⟨_, rfl, Elems.of_eq (by rw [List.map_append]; rfl) (noId_map (fun _ => rfl) _)⟩ | exact ⟨rfl, rfl⟩ | exact ⟨rfl, ents_noId (fun _ => rfl) (fun _ => rfl)⟩ | exact ⟨_, rfl, Elems.ren (Wks.refl _) rfl⟩ | refine And.intro ?_ ?_))
    · exact (List.perm_append_singleton j seen).nodup_iff.2 hn2
    · rcases List.mem_append.1 hx with hx | hx
      · exact hlt x hx
      · simp only [List.mem_singleton] at hx; subst hx; exact hjl
end Go.Proofs.YtfbjoamdkieamaaGreat.AM
end

section
set_option linter.unusedSimpArgs false
set_option linter.unusedVariables false
set_option maxHeartbeats 8000000
namespace Go.Proofs.YtfbjoamdkieamaaGreat.AM
open Go Go.Proofs Go.Sort

/-- A valid format. -/
structure Valid (f : Format) : Prop where
  check : f.check = 0
theorem Format.form_of {f : Format} (h : f.form = 0) : f.disk.ok ∧ formatP f := by
  unfold Format.form at h
  split at h
  · rename_i h1
    split at h
    · rename_i h2; exact ⟨h1, h2⟩
    · omega
  · omega
theorem Format.check_of {f : Format} (h : f.check = 0) : f.disk.ok ∧ formatP f ∧ ¬ clashL f.grown := by
  unfold Format.check at h
  split at h
  · rename_i h0
    split at h
    · omega
    · rename_i h1
      obtain ⟨h2, h3⟩ := Format.form_of h0
      exact ⟨h2, h3, h1⟩
  · omega
theorem formatP.inVD {f : Format} (h : formatP f) : inVD f.grown := by
  intro d hd
  obtain ⟨j, hj, rfl⟩ := List.mem_iff_getElem.1 hd
  have := h.2.2.2.2 j hj
  simp only [nth] at this
  rw [gd hj] at this
  exact ⟨this.1, this.2.1⟩
theorem Valid.lay {f : Format} (h : Valid f) : Spec env 32 [f.av] (ofL .free []) (fun r H' => r = .tuple [.ptr 1000040 15 0 0, .int .i64 0] ∧ ∀ q ∈ planO f (layP f), H' q.1 = q.2) := by
  obtain ⟨h1, h2, h3⟩ := Format.check_of h.check
  exact lay_spec f h.check h1.good h2.1 h2.2.1 h2.2.2.1 h2.inVD
theorem Valid.good {f : Format} (h : Valid f) : (layP f).GoodN f.disk 90 := by
  obtain ⟨h1, h2, h3⟩ := Format.check_of h.check
  have := growL_good (plan0_good h1.good) (msgs f) (msgs f).length (Nat.le_refl _)
  rw [List.take_length] at this
  have hm : (msgs f).length ≤ 30 := by rw [msgs, stSort_len]; exact Nat.le_trans (lDone_len h2.inVD) h2.2.2.1
  exact ⟨this.len, this.blocks, this.sorted, fun s => ⟨(this.given s).1, Int.le_trans (this.given s).2 (by have := h2.2.1; omega)⟩⟩
theorem mput_len {κ ν : Type} [DecidableEq κ] (m : List (κ × ν)) (a : κ) (v : ν) : (mput m a v).length ≤ m.length + 1 := by
  have : ((mput m a v).map (·.1)).length ≤ m.length + 1 := by rw [mput_keys]; split <;> simp
  simpa using this
theorem tally_len (l : List Int) : (tally l).length ≤ l.length := by
  have key : ∀ (l : List Int) (m : List (Int × Int)), (l.foldl (fun m s => mput m s ((mget m s).getD 0 + 1)) m).length ≤ m.length + l.length := by
    intro l
    induction l with
    | nil => intro m; simp
    | cons x l ih =>
      intro m
      have h1 := ih (mput m x ((mget m x).getD 0 + 1))
      have h2 := mput_len m x ((mget m x).getD 0 + 1)
      simp only [List.foldl_cons, List.length_cons]
      omega
  simpa [tally] using key l []
theorem grow_given (d : Disk) (p : Plan) (s : Int) : (p.grow d s).given = mput p.given s ((mget p.given s).getD 0 + 1) := by
  unfold Plan.grow
  dsimp only
  split
  · rfl
  split
  · rfl
  split
  · rfl
  split <;> rfl
theorem growL_given (f : Format) (l : List Defect) : ∀ p : Plan, (growL f p l).given.length ≤ p.given.length + l.length := by
  induction l with
  | nil => intro p; simp [growL]
  | cons x l ih =>
    intro p
    have h1 := ih (p.grow f.disk x.sector)
    rw [grow_given] at h1
    have h2 := mput_len p.given x.sector ((mget p.given x.sector).getD 0 + 1)
    simp only [growL, List.foldl_cons, List.length_cons] at *
    omega
theorem Valid.given {f : Format} (h : Valid f) : (layP f).given.length ≤ 10000 := by
  obtain ⟨h1, h2, h3⟩ := Format.check_of h.check
  have h4 := growL_given f (msgs f) (plan0 f)
  have h5 := tally_len f.primary
  have hm : (msgs f).length ≤ 30 := by rw [msgs, stSort_len]; exact Nat.le_trans (lDone_len h2.inVD) h2.2.2.1
  have h6 := h2.2.1
  have h7 : (plan0 f).given = tally f.primary := rfl
  rw [h7] at h4
  show (growL f (plan0 f) (msgs f)).given.length ≤ _
  omega

theorem list_spec (f : Format) (hf : Valid f) {g : Nat} {L : List Int} (hT : Spec env g [.ptr 1000040 15 0 0] (ofL .free (planO f (layP f))) (fun r H' => r = .list true 1 (L.map (.int .i64)) ∧ ∀ q ∈ planD, H' q.1 = q.2)) :
    PSpec env 33 [f.av, .fn (.func g) [] []] (.tuple [.list true 1 (L.map (.int .i64)), .int .i64 0]) := by
  have hlay := hf.lay
  generalize layP f = p at *
  simp only [planO, planD] at hT hlay
  refine Spec.introR (nt := _) (rs := [_, _]) Tryz.func33 rfl rfl rfl rfl rfl [] (fun i h => absurd rfl h) fun X hX => ?_
  repeat' (first | refine GoC.seq ?_ | refine GoC.region rfl ?_ | refine GoOps.nil ?_ | refine GoOps.a rfl ?_ | refine GoOps.m (OpL.boxw (by rfl) rfl rfl rfl rfl) ?_)
  refine GoOps.m (OpL.callO (lk []) rfl rfl hlay rfl rfl trivial (by rfl) (by rfl) (post := [(1000040, _), (1000041, _), (1000042, _), (1000043, _)])
      (by exact ⟨⟨rfl, ⟨_, rfl, OutE.ren rfl⟩, .inr rfl⟩, ⟨rfl, ⟨_, rfl, OutE.mapped fun _ => rfl⟩, .inr rfl⟩, ⟨rfl, ⟨_, rfl, OutE.mapped fun _ => rfl⟩, .inr rfl⟩, ⟨rfl, ⟨rfl, ents_noId (fun _ => rfl) (fun _ => rfl)⟩, .inr rfl⟩, trivial⟩) (by rfl) (by rfl)) ?_
  repeat' (first | refine GoC.seq ?_ | refine GoC.region rfl ?_ | refine GoC.skip ?_ | refine GoC.cond_f rfl ?_ | refine GoOps.nil ?_ | refine GoOps.a rfl ?_)
  refine GoOps.m (OpL.callO (lk []) rfl rfl hT rfl rfl ⟨⟨_, rfl, Elems.ren (Wks.refl _) rfl⟩, ⟨_, rfl, Elems.mapped (fun _ => rfl) rfl⟩, ⟨_, rfl, Elems.mapped (fun _ => rfl) rfl⟩, ⟨rfl, ents_noId (fun _ => rfl) (fun _ => rfl)⟩, trivial⟩ (by rfl) (by rfl)
      (post := [(1000040, .dead), (1000041, .dead), (1000042, .dead), (1000043, .dead)])
      (by exact ⟨⟨rfl, rfl, rfl⟩, ⟨rfl, rfl, rfl⟩, ⟨rfl, rfl, rfl⟩, ⟨rfl, rfl, rfl⟩, trivial⟩) (by rfl) (by rfl)) ?_
  repeat' (first | refine GoC.ret ?_ | refine GoOps.nil ?_ | refine GoOps.a rfl ?_)
  ((try dsimp only [thenA, inBlockA]); refine FnPost.many (.inr rfl) (RetOK.hv rfl (RetOK.hv rfl RetOK.nil)) ?_; (try dsimp only [tup]))

theorem Given_spec (f : Format) (hf : Valid f) : PSpec env 10 [f.av] (.tuple [.list true 1 ((layP f).secs.map (.int .i64)), .int .i64 0]) := by
  have h1 := list_spec f hf (sectors_spec f (layP f) hf.given)
  refine Spec.introR (nt := _) (rs := [_, _]) Tryz.func10 rfl rfl rfl rfl rfl [] (fun i h => absurd rfl h) fun X hX => ?_
  repeat' (first | refine GoC.seq ?_ | refine GoC.region rfl ?_ | refine GoC.ret ?_ | refine GoOps.nil ?_ | refine GoOps.a rfl ?_ | refine GoOps.m (OpL.boxw (by rfl) rfl rfl rfl rfl) ?_ | refine GoOps.p (OpL.call rfl rfl (h1) rfl rfl) ?_)
  ((try dsimp only [thenA, inBlockA]); refine FnPost.many (.inr rfl) (RetOK.hv rfl (RetOK.hv rfl RetOK.nil)) ?_; (try dsimp only [tup]))
theorem Free_spec (f : Format) (hf : Valid f) : PSpec env 11 [f.av] (.tuple [.list true 1 ((layP f).spares.map (.int .i64)), .int .i64 0]) := by
  obtain ⟨hd, _⟩ := Format.check_of hf.check
  have hl := hd.good.len
  have h1 := list_spec f hf (spares_spec f (layP f) (by have := hf.good.len; omega))
  refine Spec.introR (nt := _) (rs := [_, _]) Tryz.func11 rfl rfl rfl rfl rfl [] (fun i h => absurd rfl h) fun X hX => ?_
  repeat' (first | refine GoC.seq ?_ | refine GoC.region rfl ?_ | refine GoC.ret ?_ | refine GoOps.nil ?_ | refine GoOps.a rfl ?_ | refine GoOps.m (OpL.boxw (by rfl) rfl rfl rfl rfl) ?_ | refine GoOps.p (OpL.call rfl rfl (h1) rfl rfl) ?_)
  ((try dsimp only [thenA, inBlockA]); refine FnPost.many (.inr rfl) (RetOK.hv rfl (RetOK.hv rfl RetOK.nil)) ?_; (try dsimp only [tup]))
theorem Lost_spec (f : Format) (hf : Valid f) : PSpec env 23 [f.av] (.tuple [.list true 1 ((layP f).lost.map (.int .i64)), .int .i64 0]) := by
  have h1 := list_spec f hf (lost_spec f (layP f) hf.good.blocks)
  refine Spec.introR (nt := _) (rs := [_, _]) Tryz.func23 rfl rfl rfl rfl rfl [] (fun i h => absurd rfl h) fun X hX => ?_
  repeat' (first | refine GoC.seq ?_ | refine GoC.region rfl ?_ | refine GoC.ret ?_ | refine GoOps.nil ?_ | refine GoOps.a rfl ?_ | refine GoOps.m (OpL.boxw (by rfl) rfl rfl rfl rfl) ?_ | refine GoOps.p (OpL.call rfl rfl (h1) rfl rfl) ?_)
  ((try dsimp only [thenA, inBlockA]); refine FnPost.many (.inr rfl) (RetOK.hv rfl (RetOK.hv rfl RetOK.nil)) ?_; (try dsimp only [tup]))
theorem Blocks_spec (f : Format) (hf : Valid f) : PSpec env 16 [f.av] (.tuple [.int .i64 (layP f).blocks.length, .int .i64 0]) := by
  have h1 := list_spec f hf (blocks_spec f (layP f))
  refine Spec.introR (nt := _) (rs := [_, _]) Tryz.func16 rfl rfl rfl rfl rfl [] (fun i h => absurd rfl h) fun X hX => ?_
  repeat' (first | refine GoC.seq ?_ | refine GoC.region rfl ?_ | refine GoC.ret ?_ | refine GoOps.nil ?_ | refine GoOps.a rfl ?_ | refine GoOps.p (OpL.len rfl rfl) ?_ | refine GoOps.m (OpL.boxw (by rfl) rfl rfl rfl rfl) ?_ | refine GoOps.p (OpL.call rfl rfl (h1) rfl rfl) ?_)
  ((try dsimp only [thenA, inBlockA]); refine FnPost.many (.inr rfl) (RetOK.hv rfl (RetOK.hv rfl RetOK.nil)) ?_; (try dsimp only [tup]))

def Plan.where_ (p : Plan) (b : Int) : Int × Int := if b < 0 ∨ p.blocks.length ≤ b then (0, 1) else if p.blocks.getD b.toNat default = -1 then (0, 3) else (p.blocks.getD b.toNat default, 0)
theorem Where_spec (f : Format) (hf : Valid f) (b : Int) : PSpec env 9 [f.av, .int .i64 b] (.tuple [.int .i64 ((layP f).where_ b).1, .int .i64 ((layP f).where_ b).2]) := by
  have hlay := hf.lay
  generalize layP f = p at *
  simp only [planO] at hlay
  refine Spec.introR (nt := _) (rs := [_, _]) Tryz.func9 rfl rfl rfl rfl rfl [] (fun i h => absurd rfl h) fun X hX => ?_
  repeat' (first | refine GoC.seq ?_ | refine GoC.region rfl ?_ | refine GoOps.nil ?_ | refine GoOps.a rfl ?_ | refine GoOps.m (OpL.boxw (by rfl) rfl rfl rfl rfl) ?_)
  refine GoOps.m (OpL.callO (lk []) rfl rfl hlay rfl rfl trivial (by rfl) (by rfl) (post := [(1000040, _), (1000041, _), (1000042, _), (1000043, _)])
      (by exact ⟨⟨rfl, ⟨_, rfl, OutE.ren rfl⟩, .inr rfl⟩, ⟨rfl, ⟨_, rfl, OutE.mapped fun _ => rfl⟩, .inr rfl⟩, ⟨rfl, ⟨_, rfl, OutE.mapped fun _ => rfl⟩, .inr rfl⟩, ⟨rfl, ⟨rfl, ents_noId (fun _ => rfl) (fun _ => rfl)⟩, .inr rfl⟩, trivial⟩) (by rfl) (by rfl)) ?_
  repeat' (first | refine GoC.seq ?_ | refine GoC.block ?_ | refine GoC.region rfl ?_ | refine GoC.skip ?_ | refine GoC.ret ?_ | refine GoC.cond_t rfl ?_ | refine GoC.cond_f rfl ?_ | (refine GoC.cond_d rfl ?_ ?_ <;> intro _ <;> try contradiction) | refine GoOps.nil ?_ | refine GoOps.a rfl ?_ | refine GoOps.u rfl rfl rfl rfl ?_ | refine GoOps.gs rfl rfl rfl rfl ?_ | refine GoOps.p (OpL.len_s rfl rfl) ?_ | refine GoOps.p (OpL.idx_sn rfl rfl rfl rfl rfl rfl (by (first | assumption | omega))) ?_ | refine GoOps.p (OpL.ldm rfl rfl (by (first | assumption | omega)) rfl (fun _ => rfl)) ?_ | (refine GoOps.sd rfl rfl ?_ ?_ <;> intro _ <;> try contradiction))
  all_goals (((try dsimp only [thenA, inBlockA]); refine FnPost.many (.inr rfl) (RetOK.hv rfl (RetOK.hv rfl RetOK.nil)) ?_; (try dsimp only [tup])); unfold Plan.where_; first | (rw [if_pos (by omega)]) | (rw [if_neg (by omega), if_pos (by assumption)]) | (rw [if_neg (by omega), if_neg (by assumption)]))
end Go.Proofs.YtfbjoamdkieamaaGreat.AM
end

section
set_option linter.unusedSimpArgs false
set_option linter.unusedVariables false
set_option maxHeartbeats 8000000
namespace Go.Proofs.YtfbjoamdkieamaaGreat.AM
open Go

theorem Copy01_spec (d : Disk) (hl : d.zones.length ≤ 1000) : PSpec env 31 [d.av] d.av := by
  refine Spec.intro (nt := _) (rs := [_]) Tryz.func31 rfl rfl rfl rfl rfl [] (fun _ h => absurd rfl h) fun X => ?_
  repeat' (first | refine GoC.seq ?_ | refine GoC.region rfl ?_ | refine GoC.ret ?_ | refine GoOps.nil ?_ | refine GoOps.a rfl ?_ | refine GoOps.b rfl ?_ | refine GoOps.m (OpL.row rfl) ?_ | refine GoOps.m (OpL.appl rfl rfl rfl rfl rfl rfl rfl rfl rfl (fun _ => rfl) (by (first | rfl | omega | (simp only [List.length_take, List.length_drop, List.length_map, List.length_append, List.length_cons, List.length_nil] <;> omega))) (by (first | rfl | omega | (simp only [List.length_take, List.length_drop, List.length_map, List.length_append, List.length_cons, List.length_nil] <;> omega)))) ?_ | refine GoOps.m (OpL.boxw (by rfl) rfl rfl rfl rfl) ?_ | refine GoOps.n (OpL.st1 rfl) ?_)
  refine FnPost.frz [8] [] [(2, .arr 26 9 [d.av])] trivial ?_ ?_
  · repeat' (first | exact ⟨⟨by decide, _, rfl, ElF.cons (by repeat' (first | exact Fz.same _ | exact Fz.mp rfl rfl (fun _ => rfl) (by (first | rfl | omega | (simp only [List.length_take, List.length_drop, List.length_map, List.length_append, List.length_cons, List.length_nil] <;> omega))) | refine Fz.agg1 ?_ ?_)) (ElF.same _)⟩, trivial⟩)
  refine FnPost.by (.inr rfl) (AS.sub.refl _) (RetOK.cellF rfl rfl rfl rfl rfl RetOK.nil) ?_
  rfl

theorem Copy03_spec (f : Format) (hl : f.disk.zones.length ≤ 1000) (hp : f.primary.length ≤ 1000000) (hg : f.grown.length ≤ 1000000) : PSpec env 8 [f.av] f.av := by
  refine Spec.intro (nt := _) (rs := [_]) Tryz.func8 rfl rfl rfl rfl rfl [] (fun _ h => absurd rfl h) fun X => ?_
  repeat' (first | refine GoC.seq ?_ | refine GoC.region rfl ?_ | refine GoC.draw env_mixed ?_ | refine GoC.ret ?_ | refine GoOps.nil ?_ | refine GoD.done rfl rfl (by kernel_rfl) ?_ | refine GoD.a rfl ?_ | refine GoOps.b rfl ?_ | refine GoD.p (OpL.build rfl) ?_ | refine GoD.m (OpL.row rfl) ?_ | refine GoD.m (OpL.appl rfl rfl rfl rfl rfl rfl rfl rfl rfl (fun _ => rfl) (by (first | rfl | omega | (simp only [List.length_take, List.length_drop, List.length_map, List.length_append, List.length_cons, List.length_nil] <;> omega))) (by (first | rfl | omega | (simp only [List.length_take, List.length_drop, List.length_map, List.length_append, List.length_cons, List.length_nil] <;> omega)))) ?_ | refine GoOps.m (OpL.boxw (by rfl) rfl rfl rfl rfl) ?_ | refine GoD.n (OpL.st1 rfl) ?_ | refine GoD.p (OpL.call rfl rfl (Copy01_spec f.disk hl) rfl rfl) ?_)
  refine FnPost.frz [11, 15] [] [(2, .arr 30 12 [f.av])] trivial ?_ ?_
  · repeat' (first | exact ⟨⟨by decide, _, rfl, ElF.cons (by repeat' (first | exact Fz.same _ | exact Fz.mp rfl rfl (fun _ => rfl) (by (first | rfl | omega | (simp only [List.length_take, List.length_drop, List.length_map, List.length_append, List.length_cons, List.length_nil] <;> omega))) | refine Fz.agg1 ?_ ?_)) (ElF.same _)⟩, trivial⟩)
  refine FnPost.by (.inr rfl) (AS.sub.refl _) (RetOK.cellF rfl rfl rfl rfl rfl RetOK.nil) ?_
  rfl
end Go.Proofs.YtfbjoamdkieamaaGreat.AM
end

section
set_option linter.unusedSimpArgs false
set_option linter.unusedVariables false
set_option maxHeartbeats 8000000
namespace Go.Proofs.YtfbjoamdkieamaaGreat.AM
open Go

theorem ext_nth {α : Type} [Inhabited α] {l l' : List α} (h : l.length = l'.length) (h' : ∀ i, i < l.length → l.getD i default = l'.getD i default) : l = l' := by
  refine List.ext_getElem h fun i h1 h2 => ?_
  have := h' i h1
  rwa [gd h1, gd h2] at this

theorem AllEqZ {a b : Zone} : AllEq [(a.cyl, b.cyl), (a.sec, b.sec)] ↔ a = b := by
  cases a; cases b; simp [AllEq]
theorem AllEqS {a b : Span} : AllEq [(a.low, b.low), (a.high, b.high)] ↔ a = b := by
  cases a; cases b; simp [AllEq]

theorem Same_spec (f g : Format) : PSpec env 14 [f.av, g.av] (.bool (decide (f = g))) := by
  refine Spec.intro (nt := _) (rs := [_]) Tryz.func14 rfl rfl rfl rfl rfl [] (fun _ h => absurd rfl h) fun X => ?_
  repeat' (first | refine GoC.seq ?_ | refine GoC.block ?_ | refine GoC.region rfl ?_ | refine GoC.skip ?_ | refine GoC.ret ?_ | refine GoC.cond_t rfl ?_ | (refine GoC.cond_d rfl ?_ ?_ <;> intro _ <;> try contradiction) | refine GoOps.nil ?_ | refine GoOps.a rfl ?_ | refine GoOps.u rfl rfl rfl rfl ?_ | refine GoOps.gs rfl rfl rfl rfl ?_ | refine GoOps.p (OpL.len rfl rfl) ?_ | refine GoOps.m (OpL.boxw (by rfl) rfl rfl rfl rfl) ?_ | (refine GoOps.sd rfl rfl ?_ ?_ <;> intro _ <;> try contradiction))
  iterate 4 (· rename_i h; ((try dsimp only [thenA, inBlockA]); refine FnPost.many (.inr rfl) (RetOK.hv rfl RetOK.nil) ?_; (try dsimp only [tup])); rw [decide_eq_false]; rintro rfl; exact h rfl)
  rename_i h1 h2 h3 h4
  have e1 : f.primary.length = g.primary.length := by omega
  have e2 : f.grown.length = g.grown.length := by omega
  have e3 : f.disk.zones.length = g.disk.zones.length := by omega
  refine GoC.loop (G := Nat) (fun i => ⟨ofL .junk [(2, .ptr 2 12 0 0), (3, .ptr 3 12 0 0), (5, .int .i64 i)], ofL .free [(2, .arr 30 12 [f.av]), (3, .arr 30 12 [g.av])], []⟩) (fun i => i ≤ f.primary.length ∧ ∀ j, j < i → f.primary.getD j default = g.primary.getD j default) (fun i => f.primary.length - i) 0 ⟨Nat.zero_le _, fun j h => absurd h (Nat.not_lt_zero j)⟩ (by (refine AS.sub.mk' _ _ (lk []) rfl rfl ?_ ?_ <;> repeat' (first | exact True.intro | rfl | exact Wk.refl _ | exact ⟨_, rfl, Elems.all rfl⟩ | refine And.intro ?_ ?_))) ?_
  rintro i ⟨hi, hz⟩ R hR
  repeat' (first | refine GoC.seq ?_ | refine GoC.block ?_ | refine GoC.region rfl ?_ | refine GoC.draw env_mixed ?_ | refine GoC.skip ?_ | refine GoC.exit ?_ | refine GoC.ret ?_ | (refine GoC.cond_d rfl ?_ ?_ <;> intro _ <;> try contradiction) | refine GoOps.nil ?_ | refine GoD.done rfl rfl (by kernel_rfl) ?_ | refine GoOps.a rfl ?_ | refine GoD.a rfl ?_ | refine GoOps.p (OpL.len rfl rfl) ?_ | refine GoD.p (OpL.idx rfl rfl (by with_reducible exact rfl) rfl rfl rfl rfl (by (first | assumption | omega))) ?_)
  · rename_i h5 h6
    ((try dsimp only [thenA, inBlockA]); refine FnPost.many (.inr rfl) (RetOK.hv rfl RetOK.nil) ?_; (try dsimp only [tup])); rw [decide_eq_false]; rintro rfl; exact h6 rfl
  · refine GoOps.bnd 44 rfl fun hb => ?_
    repeat' (first | refine GoOps.nil ?_ | refine GoOps.a rfl ?_ | refine GoOps.p (OpL.add rfl rfl (by (first | assumption | omega))) ?_)
    rename_i h5 h6
    refine hR (i + 1) _ ⟨by omega, fun j hj => ?_⟩ (by omega) (by (refine AS.sub.mk' _ _ (lk []) rfl rfl ?_ ?_ <;> repeat' (first | exact True.intro | rfl | exact Wk.refl _ | exact ⟨_, rfl, Elems.all rfl⟩ | refine And.intro ?_ ?_)))
    by_cases h : j < i
    · exact hz j h
    · obtain rfl : j = i := by omega
      omega
  have hp : f.primary = g.primary := ext_nth e1 fun j hj => hz j (by omega)
  refine GoC.loop (G := Nat) (fun i => ⟨ofL .junk [(2, .ptr 2 12 0 0), (3, .ptr 3 12 0 0), (6, .int .i64 i)], ofL .free [(2, .arr 30 12 [f.av]), (3, .arr 30 12 [g.av])], []⟩) (fun i => i ≤ f.grown.length ∧ ∀ j, j < i → f.grown.getD j default = g.grown.getD j default) (fun i => f.grown.length - i) 0 ⟨Nat.zero_le _, fun j h => absurd h (Nat.not_lt_zero j)⟩ (by (refine AS.sub.mk' _ _ (lk []) rfl rfl ?_ ?_ <;> repeat' (first | exact True.intro | rfl | exact Wk.refl _ | exact ⟨_, rfl, Elems.all rfl⟩ | refine And.intro ?_ ?_))) ?_
  rintro i2 ⟨hi2, hz2⟩ R2 hR2
  repeat' (first | refine GoC.seq ?_ | refine GoC.block ?_ | refine GoC.region rfl ?_ | refine GoC.draw env_mixed ?_ | refine GoC.skip ?_ | refine GoC.exit ?_ | refine GoC.ret ?_ | (refine GoC.cond_d rfl ?_ ?_ <;> intro _ <;> try contradiction) | refine GoOps.nil ?_ | refine GoD.done rfl rfl (by kernel_rfl) ?_ | refine GoOps.a rfl ?_ | refine GoD.a rfl ?_ | refine GoOps.p (OpL.len rfl rfl) ?_ | refine GoD.p (OpL.idx rfl rfl (by with_reducible exact rfl) rfl rfl rfl rfl (by (first | assumption | omega))) ?_ | refine GoD.p (OpL.nes (ps := [(_, _), (_, _), (_, _)]) (env_eqs rfl) rfl rfl rfl rfl) ?_)
  · rename_i h5 h6
    ((try dsimp only [thenA, inBlockA]); refine FnPost.many (.inr rfl) (RetOK.hv rfl RetOK.nil) ?_; (try dsimp only [tup])); rw [decide_eq_false]; rintro rfl; exact h6 (AllEq3.2 rfl)
  · refine GoOps.bnd 62 rfl fun hb => ?_
    repeat' (first | refine GoOps.nil ?_ | refine GoOps.a rfl ?_ | refine GoOps.p (OpL.add rfl rfl (by (first | assumption | omega))) ?_)
    rename_i h5 h6
    refine hR2 (i2 + 1) _ ⟨by omega, fun j hj => ?_⟩ (by omega) (by (refine AS.sub.mk' _ _ (lk []) rfl rfl ?_ ?_ <;> repeat' (first | exact True.intro | rfl | exact Wk.refl _ | exact ⟨_, rfl, Elems.all rfl⟩ | refine And.intro ?_ ?_)))
    by_cases h : j < i2
    · exact hz2 j h
    · obtain rfl : j = i2 := by omega
      exact AllEq3.1 (Decidable.of_not_not h6)
  have hg : f.grown = g.grown := ext_nth e2 fun j hj => hz2 j (by omega)
  refine GoC.loop (G := Nat) (fun i => ⟨ofL .junk [(2, .ptr 2 12 0 0), (3, .ptr 3 12 0 0), (7, .int .i64 i)], ofL .free [(2, .arr 30 12 [f.av]), (3, .arr 30 12 [g.av])], []⟩) (fun i => i ≤ f.disk.zones.length ∧ ∀ j, j < i → f.disk.zones.getD j default = g.disk.zones.getD j default) (fun i => f.disk.zones.length - i) 0 ⟨Nat.zero_le _, fun j h => absurd h (Nat.not_lt_zero j)⟩ (by (refine AS.sub.mk' _ _ (lk []) rfl rfl ?_ ?_ <;> repeat' (first | exact True.intro | rfl | exact Wk.refl _ | exact ⟨_, rfl, Elems.all rfl⟩ | refine And.intro ?_ ?_))) ?_
  rintro i3 ⟨hi3, hz3⟩ R3 hR3
  repeat' (first | refine GoC.seq ?_ | refine GoC.block ?_ | refine GoC.region rfl ?_ | refine GoC.draw env_mixed ?_ | refine GoC.skip ?_ | refine GoC.exit ?_ | refine GoC.ret ?_ | (refine GoC.cond_d rfl ?_ ?_ <;> intro _ <;> try contradiction) | refine GoOps.nil ?_ | refine GoD.done rfl rfl (by kernel_rfl) ?_ | refine GoOps.a rfl ?_ | refine GoOps.u rfl rfl rfl rfl ?_ | refine GoOps.gs rfl rfl rfl rfl ?_ | refine GoD.a rfl ?_ | refine GoOps.p (OpL.len rfl rfl) ?_ | refine GoD.p (OpL.idx rfl rfl (by with_reducible exact rfl) rfl rfl rfl rfl (by (first | assumption | omega))) ?_ | refine GoOps.p (OpL.eqs (ps := [(_, _), (_, _)]) (env_eqs rfl) rfl rfl rfl rfl) ?_ | refine GoD.p (OpL.nes (ps := [(_, _), (_, _)]) (env_eqs rfl) rfl rfl rfl rfl) ?_ | (refine GoOps.sd rfl rfl ?_ ?_ <;> intro _ <;> try contradiction))
  · rename_i h5 h6
    ((try dsimp only [thenA, inBlockA]); refine FnPost.many (.inr rfl) (RetOK.hv rfl RetOK.nil) ?_; (try dsimp only [tup])); rw [decide_eq_false]; rintro rfl; exact h6 (AllEqZ.2 rfl)
  · refine GoOps.bnd 81 rfl fun hb => ?_
    repeat' (first | refine GoOps.nil ?_ | refine GoOps.a rfl ?_ | refine GoOps.p (OpL.add rfl rfl (by (first | assumption | omega))) ?_)
    rename_i h5 h6
    refine hR3 (i3 + 1) _ ⟨by omega, fun j hj => ?_⟩ (by omega) (by (refine AS.sub.mk' _ _ (lk []) rfl rfl ?_ ?_ <;> repeat' (first | exact True.intro | rfl | exact Wk.refl _ | exact ⟨_, rfl, Elems.all rfl⟩ | refine And.intro ?_ ?_)))
    by_cases h : j < i3
    · exact hz3 j h
    · obtain rfl : j = i3 := by omega
      exact AllEqZ.1 (Decidable.of_not_not h6)
  · rename_i a1 a2 a3 q1 q2 q3 q4 q5
    have hzz : f.disk.zones = g.disk.zones := ext_nth e3 fun j hj => hz3 j (by omega)
    have hsp : f.spares = g.spares := by omega
    ((try dsimp only [thenA, inBlockA]); refine FnPost.many (.inr rfl) (RetOK.hv rfl RetOK.nil) ?_; (try dsimp only [tup]))
    refine congrArg AV.bool ?_
    refine decide_eq_decide.2 (AllEqS.trans ?_)
    have q6 := AllEqS.1 q5
    constructor
    · intro q7
      obtain ⟨⟨_, _, _, _, _, _, _⟩, _, _, _⟩ := f
      obtain ⟨⟨_, _, _, _, _, _, _⟩, _, _, _⟩ := g
      simp only at *
      simp only [hp, hg, hzz, hsp, q1, q2, q3, q4, q6, q7]
    · rintro rfl; rfl
  · rename_i q5; ((try dsimp only [thenA, inBlockA]); refine FnPost.many (.inr rfl) (RetOK.hv rfl RetOK.nil) ?_; (try dsimp only [tup])); rw [decide_eq_false]; rintro rfl; exact q5 (AllEqS.2 rfl)
  all_goals (rename_i q5; ((try dsimp only [thenA, inBlockA]); refine FnPost.many (.inr rfl) (RetOK.hv rfl RetOK.nil) ?_; (try dsimp only [tup])); rw [decide_eq_false]; rintro rfl; exact q5 rfl)
end Go.Proofs.YtfbjoamdkieamaaGreat.AM
end

section
set_option linter.unusedSimpArgs false
set_option linter.unusedVariables false
set_option maxHeartbeats 8000000
namespace Go.Proofs.YtfbjoamdkieamaaGreat.AM
open Go Go.Proofs

theorem sameInts_spec (c c' : Bool) (a b : List Int) : PSpec env 12 [.list c 1 (a.map (.int .i64)), .list c' 1 (b.map (.int .i64))] (.bool (decide (a = b))) := by
  refine Spec.intro (nt := _) (rs := [_]) Tryz.func12 rfl rfl rfl rfl rfl [] (fun _ h => absurd rfl h) fun X => ?_
  refine GoC.bnd 0 rfl fun hb => ?_
  repeat' (first | refine GoC.seq ?_ | refine GoC.block ?_ | refine GoC.region rfl ?_ | refine GoC.skip ?_ | refine GoC.ret ?_ | (refine GoC.cond_d rfl ?_ ?_ <;> intro _ <;> try contradiction) | refine GoOps.nil ?_ | refine GoOps.a rfl ?_ | refine GoOps.p (OpL.len rfl rfl) ?_)
  · ((try dsimp only [thenA, inBlockA]); refine FnPost.many (.inr rfl) (RetOK.hv rfl RetOK.nil) ?_; (try dsimp only [tup]))
    rw [decide_eq_false]
    rintro rfl
    omega
  refine GoC.loop (G := Nat) (fun i => ⟨ofL .junk [(0, .list c 1 (a.map (.int .i64))), (1, .list c' 1 (b.map (.int .i64))), (5, .int .i64 i)], ofL .free [], []⟩)
    (fun i => i ≤ a.length ∧ ∀ j, j < i → a.getD j default = b.getD j default) (fun i => a.length - i) 0 ⟨Nat.zero_le _, fun j h => absurd h (Nat.not_lt_zero j)⟩ (by (refine AS.sub.mk' _ _ (lk []) rfl rfl ?_ ?_ <;> repeat' (first | exact True.intro | rfl | exact Wk.refl _ | refine And.intro ?_ ?_))) ?_
  rintro i ⟨hi, hz⟩ R hR
  try dsimp only at *
  repeat' (first | refine GoC.seq ?_ | refine GoC.block ?_ | refine GoC.region rfl ?_ | refine GoC.draw env_mixed ?_ | refine GoC.skip ?_ | refine GoC.exit ?_ | refine GoC.ret ?_ | (refine GoC.cond_d rfl ?_ ?_ <;> intro _ <;> try contradiction) | refine GoOps.nil ?_ | refine GoD.done rfl rfl (by kernel_rfl) ?_ | refine GoOps.a rfl ?_ | refine GoD.a rfl ?_ | refine GoOps.p (OpL.len rfl rfl) ?_ | refine GoD.p (OpL.idx rfl rfl (by with_reducible exact rfl) rfl rfl rfl rfl (by (first | assumption | omega))) ?_ | refine GoOps.p (OpL.add rfl rfl (by (first | assumption | omega))) ?_)
  · ((try dsimp only [thenA, inBlockA]); refine FnPost.many (.inr rfl) (RetOK.hv rfl RetOK.nil) ?_; (try dsimp only [tup]))
    rw [decide_eq_false]
    rintro rfl
    simp_all
  · refine hR (i + 1) _ ⟨by omega, fun j hj => ?_⟩ (by omega) (by (refine AS.sub.mk' _ _ (lk []) rfl rfl ?_ ?_ <;> repeat' (first | exact True.intro | rfl | exact Wk.refl _ | refine And.intro ?_ ?_)))
    by_cases h : j < i
    · exact hz j h
    · obtain rfl : j = i := by omega
      rename_i h1 h2
      exact Decidable.of_not_not h2
  · ((try dsimp only [thenA, inBlockA]); refine FnPost.many (.inr rfl) (RetOK.hv rfl RetOK.nil) ?_; (try dsimp only [tup]))
    rw [decide_eq_true]
    refine List.ext_getElem (by omega) fun j h1 h2 => ?_
    have := hz j (by omega)
    rwa [gd h1, gd h2] at this

def far1 (d : Disk) : Prop := 20 < d.zones.length ∨ (d.ok ∧ (200 < d.count ∨ 120 < d.turn))
instance (d : Disk) : Decidable (far1 d) := by unfold far1; infer_instance
theorem Far01_spec (d : Disk) : PSpec env 45 [d.av] (.bool (decide (far1 d))) := by
  have hc := Check01_spec d
  by_cases hd : d.ok
  · rw [if_pos hd] at hc
    have hn := Count_spec d hd.good
    refine Spec.intro (nt := _) (rs := [_]) Tryz.func45 rfl rfl rfl rfl rfl [] (fun _ h => absurd rfl h) fun X => ?_
    repeat' (first | refine GoC.seq ?_ | refine GoC.region rfl ?_ | refine GoC.ret ?_ | refine GoOps.nil ?_ | refine GoOps.a rfl ?_ | refine GoOps.u rfl rfl rfl rfl ?_ | refine GoOps.gs rfl rfl rfl rfl ?_ | refine GoOps.gj rfl rfl rfl ?_ | refine GoOps.p (OpL.len rfl rfl) ?_ | refine GoOps.m (OpL.boxw (by rfl) rfl rfl rfl rfl) ?_ | refine GoOps.p (OpL.call rfl rfl (hc) rfl rfl) ?_ | refine GoOps.p (OpL.call rfl rfl (hn) rfl rfl) ?_ | (refine GoOps.sd rfl rfl ?_ ?_ <;> intro _ <;> try contradiction))
    all_goals (((try dsimp only [thenA, inBlockA]); refine FnPost.many (.inr rfl) (RetOK.hv rfl RetOK.nil) ?_; (try dsimp only [tup])); congr 1; rw [Bool.eq_iff_iff]; simp [far1, hd]; try omega)
  · rw [if_neg hd] at hc
    refine Spec.intro (nt := _) (rs := [_]) Tryz.func45 rfl rfl rfl rfl rfl [] (fun _ h => absurd rfl h) fun X => ?_
    repeat' (first | refine GoC.seq ?_ | refine GoC.region rfl ?_ | refine GoC.ret ?_ | refine GoOps.nil ?_ | refine GoOps.a rfl ?_ | refine GoOps.u rfl rfl rfl rfl ?_ | refine GoOps.gs rfl rfl rfl rfl ?_ | refine GoOps.gj rfl rfl rfl ?_ | refine GoOps.p (OpL.len rfl rfl) ?_ | refine GoOps.m (OpL.boxw (by rfl) rfl rfl rfl rfl) ?_ | refine GoOps.p (OpL.call rfl rfl (hc) rfl rfl) ?_ | (refine GoOps.sd rfl rfl ?_ ?_ <;> intro _ <;> try contradiction))
    all_goals (((try dsimp only [thenA, inBlockA]); refine FnPost.many (.inr rfl) (RetOK.hv rfl RetOK.nil) ?_; (try dsimp only [tup])); congr 1; rw [Bool.eq_iff_iff]; simp [far1, hd]; try omega)

def far3 (f : Format) : Prop := far1 f.disk ∨ 100 < f.primary.length ∨ 60 < f.grown.length
instance (f : Format) : Decidable (far3 f) := by unfold far3; infer_instance
theorem Far03_spec (f : Format) : PSpec env 20 [f.av] (.bool (decide (far3 f))) := by
  have hc := Far01_spec f.disk
  refine Spec.intro (nt := _) (rs := [_]) Tryz.func20 rfl rfl rfl rfl rfl [] (fun _ h => absurd rfl h) fun X => ?_
  repeat' (first | refine GoC.seq ?_ | refine GoC.region rfl ?_ | refine GoC.ret ?_ | refine GoOps.nil ?_ | refine GoOps.a rfl ?_ | refine GoOps.u rfl rfl rfl rfl ?_ | refine GoOps.gs rfl rfl rfl rfl ?_ | refine GoOps.p (OpL.len rfl rfl) ?_ | refine GoOps.m (OpL.boxw (by rfl) rfl rfl rfl rfl) ?_ | refine GoOps.p (OpL.call rfl rfl (hc) rfl rfl) ?_ | (refine GoOps.sd rfl rfl ?_ ?_ <;> intro _ <;> try contradiction))
  all_goals (((try dsimp only [thenA, inBlockA]); refine FnPost.many (.inr rfl) (RetOK.hv rfl RetOK.nil) ?_; (try dsimp only [tup])); congr 1; rw [Bool.eq_iff_iff]; simp [far3, *]; try omega)

def readyP (f : Format) : Prop := ¬ far3 f ∧ f.status = 0
instance (f : Format) : Decidable (readyP f) := by unfold readyP; infer_instance
theorem ready_spec (f : Format) : PSpec env 6 [f.av] (.bool (decide (readyP f))) := by
  have hc := Far03_spec f
  have hs := Check03_spec f
  refine Spec.intro (nt := _) (rs := [_]) Tryz.func6 rfl rfl rfl rfl rfl [] (fun _ h => absurd rfl h) fun X => ?_
  repeat' (first | refine GoC.seq ?_ | refine GoC.region rfl ?_ | refine GoC.ret ?_ | refine GoOps.nil ?_ | refine GoOps.a rfl ?_ | refine GoOps.u rfl rfl rfl rfl ?_ | refine GoOps.gs rfl rfl rfl rfl ?_ | refine GoOps.m (OpL.boxw (by rfl) rfl rfl rfl rfl) ?_ | refine GoOps.p (OpL.call rfl rfl (hc) rfl rfl) ?_ | refine GoOps.p (OpL.call rfl rfl (hs) rfl rfl) ?_ | (refine GoOps.sn rfl rfl ?_ ?_ <;> intro _ <;> try contradiction))
  all_goals (((try dsimp only [thenA, inBlockA]); refine FnPost.many (.inr rfl) (RetOK.hv rfl RetOK.nil) ?_; (try dsimp only [tup])); congr 1; rw [Bool.eq_iff_iff]; simp [readyP, *]; try omega)

def exDisk : Disk := ⟨2, 60, [⟨2, 6⟩, ⟨1, 5⟩], 10, 25, ⟨4, 12⟩, ⟨20, 30⟩⟩
def exFormat : Format := ⟨exDisk, 2, [3, 20], [⟨1, 5, 4⟩, ⟨2, 9, 22⟩, ⟨3, 7, 33⟩, ⟨4, 8, 23⟩, ⟨5, 6, 30⟩]⟩
theorem span_spec (a b : Int) : PSpec env 71 [.int .i64 a, .int .i64 b] (.agg [.int .i64 a, .int .i64 b]) := by
  refine Spec.intro (nt := _) (rs := [_]) Tryz.func71 rfl rfl rfl rfl rfl [] (fun _ h => absurd rfl h) fun X => ?_
  repeat' (first | refine GoC.seq ?_ | refine GoC.region rfl ?_ | refine GoC.ret ?_ | refine GoOps.nil ?_ | refine GoOps.a rfl ?_ | refine GoOps.b rfl ?_ | refine GoOps.p (OpL.build rfl) ?_ | refine GoOps.n (OpL.st1 rfl) ?_)
  refine FnPost.many (.inr rfl) (RetOK.cellF rfl rfl rfl rfl rfl RetOK.nil) rfl
theorem exDisk_spec : PSpec env 53 [] exDisk.av := by
  have h1 := span_spec 4 12
  have h2 := span_spec 20 30
  refine Spec.intro (nt := _) (rs := [_]) Tryz.func53 rfl rfl rfl rfl rfl [] (fun _ h => absurd rfl h) fun X => ?_
  repeat' (first | refine GoC.seq ?_ | refine GoC.region rfl ?_ | refine GoC.ret ?_ | refine GoOps.nil ?_ | refine GoOps.b rfl ?_ | refine GoOps.p (OpL.build rfl) ?_ | refine GoOps.m (OpL.row rfl) ?_ | refine GoOps.n (OpL.st1 rfl) ?_ | refine GoOps.p (OpL.call rfl rfl (h1) rfl rfl) ?_ | refine GoOps.p (OpL.call rfl rfl (h2) rfl rfl) ?_)
  refine FnPost.frz [3] [] [(0, .arr 26 9 [exDisk.av])] trivial ?_ ?_
  · repeat' (first | exact ⟨⟨by decide, _, rfl, ElF.cons (by repeat' (first | exact Fz.same _ | exact Fz.mp rfl rfl (fun _ => rfl) (by (first | rfl | omega | (simp only [List.length_take, List.length_drop, List.length_map, List.length_append, List.length_cons, List.length_nil] <;> omega))) | refine Fz.agg1 ?_ ?_)) (ElF.same _)⟩, trivial⟩)
  refine FnPost.by (.inr rfl) (AS.sub.refl _) (RetOK.cellF rfl rfl rfl rfl rfl RetOK.nil) ?_
  rfl
theorem exFormat_spec : PSpec env 30 [] exFormat.av := by
  have h1 := exDisk_spec
  refine Spec.intro (nt := _) (rs := [_]) Tryz.func30 rfl rfl rfl rfl rfl [] (fun _ h => absurd rfl h) fun X => ?_
  repeat' (first | refine GoC.seq ?_ | refine GoC.region rfl ?_ | refine GoC.ret ?_ | refine GoOps.nil ?_ | refine GoOps.b rfl ?_ | refine GoOps.p (OpL.build rfl) ?_ | refine GoOps.m (OpL.row rfl) ?_ | refine GoOps.n (OpL.st1 rfl) ?_ | refine GoOps.p (OpL.call rfl rfl (h1) rfl rfl) ?_)
  refine FnPost.frz [2, 8] [] [(0, .arr 30 12 [exFormat.av])] trivial ?_ ?_
  · repeat' (first | exact ⟨⟨by decide, _, rfl, ElF.cons (by repeat' (first | exact Fz.same _ | exact Fz.mp rfl rfl (fun _ => rfl) (by (first | rfl | omega | (simp only [List.length_take, List.length_drop, List.length_map, List.length_append, List.length_cons, List.length_nil] <;> omega))) | refine Fz.agg1 ?_ ?_)) (ElF.same _)⟩, trivial⟩)
  refine FnPost.by (.inr rfl) (AS.sub.refl _) (RetOK.cellF rfl rfl rfl rfl rfl RetOK.nil) ?_
  rfl
end Go.Proofs.YtfbjoamdkieamaaGreat.AM
end

section
set_option linter.unusedSimpArgs false
set_option linter.unusedVariables false
namespace Go.Proofs.YtfbjoamdkieamaaGreat.AM
open Go Go.ChangeShapes Go.WideShapes Go.ChangeAt Go.RowKit

/-- All that lies in a world, to be read alone. -/
def memW (W : World) : Mem := ⟨fun b => W.heap[b]?, fun _ => none⟩
theorem memW_noat (W : World) : (memW W).noat = memW W := rfl

/-- What is read at the type t, of w cells, is the image of some a. -/
structure Rd (P : Program) (t w : Nat) (α : Type) (f : α → List AV) : Prop where
  out : ∀ {H : Type} (enc : TypeId × Value → H) (W : World) (base : Nat) (sp : Nat → Bool) (held : Bool) (fuel : Nat) (cs : List Value) (x : DataW H × List MemPlace),
    DataW.trod enc P W base sp held fuel t cs = some x → cs.length = w ∧ ∃ a : α, RS (memW W) (f a) cs

theorem Rd.map {P : Program} {t w : Nat} {α β : Type} {f : α → List AV} {g : β → List AV} (h : Rd P t w α f) (φ : α → β) (he : ∀ a, g (φ a) = f a) : Rd P t w β g :=
  ⟨fun enc W base sp held fuel cs x hx => by
    obtain ⟨h1, a, h2⟩ := h.out enc W base sp held fuel cs x hx
    exact ⟨h1, φ a, by rw [he]; exact h2⟩⟩

theorem Rd.int {P : Program} {t : Nat} {k : IntKind} (ht : P.underlying t = some (.int k)) : Rd P t 1 Int (fun n => [.int k n]) :=
  ⟨fun enc W base sp held fuel cs x hx => by
    obtain ⟨n, rfl, _⟩ := DataW.trod_int ht hx
    exact ⟨rfl, n, _, [], rfl, rfl, rfl⟩⟩
theorem Rd.bool {P : Program} {t : Nat} (ht : P.underlying t = some .bool) : Rd P t 1 Bool (fun b => [.bool b]) :=
  ⟨fun enc W base sp held fuel cs x hx => by
    obtain ⟨b, rfl, _⟩ := DataW.trod_bool ht hx
    exact ⟨rfl, b, _, [], rfl, rfl, rfl⟩⟩

/-- One element's value out of its cells. -/
def Cel {α : Type} (f : α → List AV) (g : α → AV) : Prop := ∀ (m : Mem) (a : α) (cs : List Value), RS m (f a) cs → ∃ u : Value, R m (g a) u ∧ u.cells.toList = cs
theorem Cel.agg {α : Type} {f : α → List AV} : Cel f (fun a => .agg (f a)) := fun m a cs h => ⟨.agg cs.toArray, ⟨cs, rfl, h⟩, rfl⟩
theorem Cel.int {k : IntKind} : Cel (fun n => [AV.int k n]) (AV.int k) := fun m a cs h => by
  obtain ⟨v, vs, rfl, h1, rfl⟩ := h
  exact ⟨v, h1, by rw [show v = .int k a from h1]; rfl⟩
theorem Cel.bool : Cel (fun n => [AV.bool n]) AV.bool := fun m a cs h => by
  obtain ⟨v, vs, rfl, h1, rfl⟩ := h
  exact ⟨v, h1, by rw [show v = .bool a from h1]; rfl⟩
theorem Cel.list {α : Type} {c : Bool} {w : Nat} {g : α → AV} : Cel (fun l : List α => [AV.list c w (l.map g)]) (fun l => AV.list c w (l.map g)) := fun m a cs h => by
  obtain ⟨v, vs, rfl, h1, rfl⟩ := h
  refine ⟨v, h1, ?_⟩
  obtain ⟨ad, cap, rfl, _⟩ := h1
  rfl

theorem cell_block {W : World} {a : Addr} {v : Value} (h : W.cell? a = some v) : ∃ cs T fr, W.heap[a.block]? = some (.cells cs T fr) ∧ a.spot = none ∧ cs[a.off]? = some v := by
  unfold World.cell? at h
  split at h
  · rename_i cs T fr h1
    cases hs : a.spot with
    | none => rw [hs] at h; exact ⟨_, _, _, h1, rfl, by simpa using h⟩
    | some q => rw [hs] at h; simp at h
  · simp at h
theorem exists_list {α : Type} {p : Nat → α → Prop} : ∀ n, (∀ i, i < n → ∃ x, p i x) → ∃ l : List α, l.length = n ∧ ∀ (i : Nat) (h : i < l.length), p i l[i]
  | 0, _ => ⟨[], rfl, fun i h => absurd h (Nat.not_lt_zero i)⟩
  | n + 1, h => by
    obtain ⟨l, h1, h2⟩ := exists_list n fun i hi => h i (by omega)
    obtain ⟨x, hx⟩ := h n (by omega)
    refine ⟨l ++ [x], by simp [h1], fun i hi => ?_⟩
    by_cases hl : i < l.length
    · rw [List.getElem_append_left hl]; exact h2 i hl
    · have : i = n := by simp at hi; omega
      subst this
      rw [List.getElem_append_right (by omega)]
      simpa [h1] using hx

theorem Rd.slice {P : Program} {t e w : Nat} {α : Type} {f : α → List AV} {g : α → AV} (hr : Rd P e w α f) (hc : Cel f g) (ht : P.underlying t = some (.slice e)) (hw : P.cellsOf e = w) (hpos : Nat.blt 0 w = true) : Rd P t 1 (List α) (fun l => [.list false w (l.map g)]) := by
  have hpos := Nat.le_of_ble_eq_true hpos
  refine ⟨fun enc W base sp held fuel cs x hx => ?_⟩
  rcases Deep.open_slice ht hx with ⟨rfl, _⟩ | ⟨a, len, cap, m, n, D, Pl, rfl, hb, hl, hm, hmm, _, hel⟩
  · exact ⟨rfl, [], _, [], rfl, ⟨none, 0, rfl, Nat.le_refl _, Nat.zero_le _, fun h => by simp at h, fun h => absurd rfl h⟩, rfl⟩
  · have hlm : len ≤ m := by rw [hmm]; split <;> omega
    rw [hw] at hel
    obtain ⟨l, h1, h2⟩ := exists_list (α := α) (p := fun i z => ∃ cs', W.cells? base (a.add (i * w)) w = some cs' ∧ RS (memW W) (f z) cs') len fun i hi => by
      obtain ⟨cs', h3, h4⟩ := hel i (by omega)
      obtain ⟨h5, z, h6⟩ := hr.out enc W base sp held n cs' _ h4
      exact ⟨z, cs', h3, h6⟩
    subst h1
    refine ⟨rfl, l, _, [], rfl, ⟨some a, cap, by simp, by simpa using hl, hm, fun h => by simp at h, fun hne => ?_⟩, rfl⟩
    have hl0 : 0 < l.length := by
      cases l with
      | nil => simp at hne
      | cons _ _ => simp
    obtain ⟨cs0, h3, _⟩ := h2 0 hl0
    obtain ⟨_, h4, h5⟩ := World.cells?_some h3
    have h6 := h5 0 hpos
    have h7 : ∃ v, cs0[0]? = some v := ⟨cs0[0]'(by omega), List.getElem?_eq_getElem (by omega)⟩
    obtain ⟨v, h7⟩ := h7
    rw [h7] at h6
    simp only [Nat.zero_mul, Addr.add, if_true] at h6
    obtain ⟨cs, T, fr, h8, h9, _⟩ := cell_block h6
    refine ⟨a.block, a.off, cs, T, fr, by cases a; simp_all, h8, ?_⟩
    rw [RRow_iff]
    intro i hi
    rw [List.length_map] at hi
    obtain ⟨cs', h10, h11⟩ := h2 i hi
    obtain ⟨_, h12, h13⟩ := World.cells?_some h10
    obtain ⟨u, h14, h15⟩ := hc _ _ _ h11
    have hsz : u.cells.size = w := by rw [← Array.length_toList, h15, h12]
    refine ⟨u, by rw [memW_noat]; simpa [List.getD_eq_getElem?_getD, hi] using h14, hsz, fun j hj => ?_⟩
    have h16 := h13 j hj
    rw [List.getElem?_eq_getElem (by omega)] at h16
    obtain ⟨cs2, T2, fr2, h17, h18, h19⟩ := cell_block h16
    have hblk : ((a.add (i * w)).add j).block = a.block := by unfold Addr.add; split <;> split <;> rfl
    have hoff : ((a.add (i * w)).add j).off = a.off + i * w + j := by
      unfold Addr.add
      split <;> split <;> simp_all
    rw [hblk, h8] at h17
    cases h17
    rw [hoff] at h19
    rw [h19, ← Array.getElem?_toList (xs := u.cells), h15, List.getElem?_eq_getElem (by omega)]

/-- Fields of a struct, one behind the other. -/
structure Rds (P : Program) (fs : List Field) (o w : Nat) (α : Type) (f : α → List AV) : Prop where
  out : ∀ {H : Type} (enc : TypeId × Value → H) (W : World) (base : Nat) (sp : Nat → Bool) (held : Bool) (fuel : Nat) (cs : List Value), cs.length = o + w →
    (∀ fd ∈ fs, ∃ x, DataW.trod enc P W base sp held fuel fd.type ((cs.drop fd.offset).take (P.cellsOf fd.type)) = some x) → ∃ a : α, RS (memW W) (f a) (cs.drop o)
theorem Rds.nil {P : Program} {o : Nat} : Rds P [] o 0 Unit (fun _ => []) :=
  ⟨fun enc W base sp held fuel cs hl _ => ⟨(), List.drop_eq_nil_of_le (by omega)⟩⟩
theorem RS_app {m : Mem} : ∀ {xs ys : List AV} {vs us : List Value}, RS m xs vs → RS m ys us → RS m (xs ++ ys) (vs ++ us) := fun h h' => RS_append h h'
theorem Rds.cons {P : Program} {fd : Field} {fs : List Field} {o w w' : Nat} {α β : Type} {f : α → List AV} {g : β → List AV} (ho : fd.offset = o) (hw : P.cellsOf fd.type = w) (h : Rd P fd.type w α f) (h' : Rds P fs (o + w) w' β g) :
    Rds P (fd :: fs) o (w + w') (α × β) (fun p => f p.1 ++ g p.2) :=
  ⟨fun enc W base sp held fuel cs hl hx => by
    obtain ⟨b, hb⟩ := h'.out enc W base sp held fuel cs (by omega) fun d hd => hx d (by simp [hd])
    obtain ⟨x, h1⟩ := hx fd (by simp)
    rw [ho, hw] at h1
    obtain ⟨h2, a, ha⟩ := h.out enc W base sp held fuel _ _ h1
    refine ⟨(a, b), ?_⟩
    have e : cs.drop o = (cs.drop o).take w ++ cs.drop (o + w) := by
      rw [← List.drop_drop, List.take_append_drop]
    rw [e]
    exact RS_app ha hb⟩
theorem Rd.struct {P : Program} {t w : Nat} {fs : Array Field} {α : Type} {f : α → List AV} (ht : P.underlying t = some (.struct fs)) (hw : P.cellsOf t = w) (h : Rds P fs.toList 0 w α f) : Rd P t w α f :=
  ⟨fun enc W base sp held fuel cs x hx => by
    obtain ⟨xs, n, rfl, rfl, h1, h2, h3⟩ := DataW.trod_struct ht hx
    rw [hw] at h1
    refine ⟨h1, ?_⟩
    obtain ⟨a, ha⟩ := h.out enc W base sp held n cs (by omega) fun fd hfd => by
      obtain ⟨i, hi, rfl⟩ := List.getElem_of_mem hfd
      have := h3 i (fs.toList[i]) (by simp at hi; simp [hi])
      rw [this]
      simp at hi
      exact ⟨xs[i]'(by omega), List.getElem?_eq_getElem (by omega)⟩
    exact ⟨a, by simpa using ha⟩⟩

/-- An argument that is a struct. -/
theorem Rd.arg {P : Program} {t w : Nat} {fs : Array Field} {α : Type} {f : α → List AV} (h : Rd P t w α f) (ht : P.underlying t = some (.struct fs)) {H : Type} {enc : TypeId × Value → H} {W : World} {r : Reach} {b0 base : Nat} {sp : Nat → Bool} {held : Bool} {v : Value} {d : DataW H} {ps : List MemPlace}
    (hval : Value.okWide P W r b0 t v) (hd : DataW.Trod enc P W base sp held t v d ps) : ∃ a : α, R (memW W) (.agg (f a)) v := by
  unfold Value.okWide at hval
  rw [ht] at hval
  obtain ⟨cs, rfl, _⟩ := hval
  obtain ⟨fuel, hx⟩ := hd
  obtain ⟨_, a, ha⟩ := h.out enc W base sp held fuel _ _ hx
  exact ⟨a, cs.toList, by simp, ha⟩

/-! ### Behind the call -/
theorem post_kept {H : Type} {enc : TypeId × Value → H} {P : Program} {f : Func} {s : ChangeSpec} {apart fresh handsOn again : Bool} {W W' : World} {args : Array Value} {v : Value} {ds gs : List (DataW H)} {before : List MemPlace}
    (hlaid : laidOutB P = true) (hread : (f.params.toList.all fun t => P.readableRec t && decide (t < P.types.size)) = true) (hvars : s.vars = [])
    (hW : DataW.Whole enc P f.params.toList s.vars apart W args.toList ds gs before)
    (hres : ∀ (b : Nat) (sp : Nat → Bool) (hd : Bool), DataW.TrodAll enc P W' b sp hd f.resultTypes.toList (v.resultList f.resultTypes.size) (s.fn H (ds ++ gs)).results [])
    (hargs : gs = [] → (s.fn H (ds ++ gs)).args = ds) (hvs : (s.fn H (ds ++ gs)).vars = []) (hb : Below W.heap.size W W')
    (hok : ∀ (j : Nat) (t : TypeId) (r : Value), f.resultTypes[j]? = some t → (v.resultList f.resultTypes.size)[j]? = some r → Value.okWide P W' .any 0 t r) :
    s.post enc P f apart fresh handsOn again W args v W' := by
  have hold : ∀ p ∈ before, p.block < W.heap.size := hW.lt
  have hW0 := hW
  obtain ⟨p, q, hA, hV, rfl, hfz, hnd⟩ := hW
  rw [hvars] at hV
  have hV0 : gs = [] ∧ q = [] := by
    cases gs with
    | nil => exact ⟨rfl, hV⟩
    | cons _ _ => exact hV.elim
  obtain ⟨rfl, rfl⟩ := hV0
  rw [List.append_nil] at hold hfz hnd hW0
  have hA' : ∀ sp : Nat → Bool, (∀ x ∈ p, sp x.block = true) → DataW.TrodAll enc P W' 0 sp true f.params.toList args.toList ds p := by
    intro sp
    have key : ∀ (ts : List TypeId) (vs : List Value) (ds : List (DataW H)) (p : List MemPlace), (ts.all fun t => P.readableRec t && decide (t < P.types.size)) = true → (∀ x ∈ p, x.block < W.heap.size) → (∀ x ∈ p, sp x.block = true) →
        DataW.TrodAll enc P W 0 (fun _ => true) true ts vs ds p → DataW.TrodAll enc P W' 0 sp true ts vs ds p := by
      intro ts
      induction ts with
      | nil => intro vs ds p _ _ _ h; cases vs <;> cases ds <;> exact h
      | cons t ts ih =>
        intro vs ds p hr hlt hsp h
        cases vs with
        | nil => exact h.elim
        | cons v vs =>
          cases ds with
          | nil => exact h.elim
          | cons d ds =>
            obtain ⟨p1, p2, h1, h2, rfl⟩ := h
            simp only [List.all_cons, Bool.and_eq_true, decide_eq_true_eq] at hr
            refine ⟨p1, p2, WideElems.Trod_stays hlaid hr.1.1 hr.1.2 h1 (fun x hx => hb.same (hlt x (by simp [hx]))) (fun x hx => hsp x (by simp [hx])), ih _ _ _ hr.2 (fun x hx => hlt x (by simp [hx])) (fun x hx => hsp x (by simp [hx])) h2, rfl⟩
    exact fun hsp => key _ _ _ _ hread hold hsp hA
  have e1 := hargs rfl
  have hA2 : ∀ sp : Nat → Bool, (∀ x ∈ p, sp x.block = true) → DataW.TrodAll enc P W' 0 sp true f.params.toList args.toList (s.fn H (ds ++ [])).args p := by rw [e1]; exact hA'
  have hV2 : DataW.TrodVars enc P W' (fun _ => true) s.vars (s.fn H (ds ++ [])).vars [] := by rw [hvs, hvars]; rfl
  refine ⟨ds, [], p, [], p, [], hW0, ?_, ?_, ?_, World.keptBut_mono (fun x hx => ⟨hx, .inr (by simpa using hx)⟩) (hb.frame (· ∈ p)), fun _ => ?_⟩
  · exact hres _ _ _
  · exact hA2 _ (fun x hx => by simpa using hold x hx)
  · rw [hvs, hvars]; rfl
  · refine ⟨hok, _, _, ([] ++ p) ++ [], ⟨[] ++ p, [], trodAll_append (hA2 _ (fun _ _ => rfl)) (hres _ _ _), hV2, rfl, ?_, ?_⟩, ?_⟩
    · intro b off hp
      have hp' : MemPlace.cell b off ∈ p := by simpa using hp
      rw [hb.frozen (p := ⟨b, off, none⟩) (hold _ hp')]
      exact hfz b off hp'
    · intro ha
      simpa using hnd ha
    · intro x hx _
      simpa using hx

/-- What a walk of a function of the seat says of a call in any world. -/
theorem Spec.calls {E : Env} {f : FuncId} {args : List AV} {Q : AV → (Nat → HO) → Prop} (h : Spec E f args (fun _ => .free) Q) {W : World} {vs : List Value} (hv : RS (memW W) args vs) :
    Calls E.P f vs.toArray W fun e W' => ∃ v r H' m', e = .returned v ∧ Q r H' ∧ R m' r v ∧ Below W.heap.size W W' := by
  have hM : MemOK (memW W).ro W (blocksOf (memW W) fun _ => .free) (memW W) (fun _ => .free) W :=
    { os := rfl, tape := rfl, output := rfl, size := Nat.le_refl _, block := fun _ _ _ => rfl, ro := fun _ _ h => h, told := fun _ _ h => .inl h, obj := fun _ => rfl,
      mine := fun _ _ h => by simp [HO.live] at h, apart := fun _ _ _ _ _ h => by simp [HO.live] at h }
  refine callsIn_wide.1 ((h.run 0 (memW W) W vs hM hv).mono fun e W' ⟨v, r, H', m', h1, h2, h3, h4, h5⟩ => ⟨v, r, H', m', h1, h2, h5, h4.os, h4.tape, h4.output, h4.size, fun k hk => h4.block k hk ?_⟩)
  rintro ⟨id, L, h6, _⟩
  simp [HO.live] at h6
end Go.Proofs.YtfbjoamdkieamaaGreat.AM
end

section
set_option linter.unusedSimpArgs false
set_option linter.unusedVariables false
namespace Go.Proofs.YtfbjoamdkieamaaGreat.AM
open Go Go.ChangeShapes Go.WideShapes Go.ChangeAt Go.RowKit

structure Cut where
  cut : Int
  turn : Int
  block : Int
  deriving DecidableEq, Inhabited
def Cut.av (c : Cut) : AV := .agg [.int .i64 c.cut, .int .i64 c.turn, .int .i64 c.block]
def Zone.cells_ (z : Zone) : List AV := [.int .i64 z.cyl, .int .i64 z.sec]
def Defect.cells_ (d : Defect) : List AV := [.int .i64 d.id, .int .i64 d.stamp, .int .i64 d.sector]
def Disk.cells_ (d : Disk) : List AV := [.int .i64 d.heads, .int .i64 d.turn, .list false 2 (d.zones.map Zone.av), .int .i64 d.headSkew, .int .i64 d.cylSkew, .int .i64 d.hs.low, .int .i64 d.hs.high, .int .i64 d.cs.low, .int .i64 d.cs.high]
def Format.cells_ (f : Format) : List AV := f.disk.cells_ ++ [.int .i64 f.spares, .list false 1 (f.primary.map (.int .i64)), .list false 3 (f.grown.map Defect.av)]
def Cut.cells_ (c : Cut) : List AV := [.int .i64 c.cut, .int .i64 c.turn, .int .i64 c.block]

abbrev rInt : Rd Tryz.prog 3 1 Int (fun n => [.int .i64 n]) := Rd.int Tryz.underlying3
theorem rZone : Rd Tryz.prog 75 2 Zone Zone.cells_ :=
  (Rd.struct Tryz.underlying75 (by kernel_rfl) (Rds.cons rfl (by kernel_rfl) rInt (Rds.cons rfl (by kernel_rfl) rInt Rds.nil))).map (fun p => ⟨p.1, p.2.1⟩) fun _ => rfl
theorem rDefect : Rd Tryz.prog 36 3 Defect Defect.cells_ :=
  (Rd.struct Tryz.underlying36 (by kernel_rfl) (Rds.cons rfl (by kernel_rfl) rInt (Rds.cons rfl (by kernel_rfl) rInt (Rds.cons rfl (by kernel_rfl) rInt Rds.nil)))).map (fun p => ⟨p.1, p.2.1, p.2.2.1⟩) fun _ => rfl
theorem rSpan : Rd Tryz.prog 24 2 Span (fun s => [.int .i64 s.low, .int .i64 s.high]) :=
  (Rd.struct Tryz.underlying24 (by kernel_rfl) (Rds.cons rfl (by kernel_rfl) rInt (Rds.cons rfl (by kernel_rfl) rInt Rds.nil))).map (fun p => ⟨p.1, p.2.1⟩) fun _ => rfl
theorem rCut : Rd Tryz.prog 32 3 Cut Cut.cells_ :=
  (Rd.struct Tryz.underlying32 (by kernel_rfl) (Rds.cons rfl (by kernel_rfl) rInt (Rds.cons rfl (by kernel_rfl) rInt (Rds.cons rfl (by kernel_rfl) rInt Rds.nil)))).map (fun p => ⟨p.1, p.2.1, p.2.2.1⟩) fun _ => rfl
theorem rZones : Rd Tryz.prog 22 1 (List Zone) (fun l => [.list false 2 (l.map Zone.av)]) := Rd.slice rZone Cel.agg Tryz.underlying22 (by kernel_rfl) rfl
theorem rInts : Rd Tryz.prog 27 1 (List Int) (fun l => [.list false 1 (l.map (.int .i64))]) := Rd.slice rInt Cel.int Tryz.underlying27 (by kernel_rfl) rfl
theorem rDefects : Rd Tryz.prog 28 1 (List Defect) (fun l => [.list false 3 (l.map Defect.av)]) := Rd.slice rDefect Cel.agg Tryz.underlying28 (by kernel_rfl) rfl
theorem rDisk : Rd Tryz.prog 26 9 Disk Disk.cells_ :=
  (Rd.struct Tryz.underlying26 (by kernel_rfl) (Rds.cons rfl (by kernel_rfl) rInt (Rds.cons rfl (by kernel_rfl) rInt (Rds.cons rfl (by kernel_rfl) rZones (Rds.cons rfl (by kernel_rfl) rInt (Rds.cons rfl (by kernel_rfl) rInt
    (Rds.cons rfl (by kernel_rfl) rSpan (Rds.cons rfl (by kernel_rfl) rSpan Rds.nil)))))))).map (fun p => ⟨p.1, p.2.1, p.2.2.1, p.2.2.2.1, p.2.2.2.2.1, p.2.2.2.2.2.1, p.2.2.2.2.2.2.1⟩) fun _ => rfl
theorem rFormat : Rd Tryz.prog 30 12 Format Format.cells_ :=
  (Rd.struct Tryz.underlying30 (by kernel_rfl) (Rds.cons rfl (by kernel_rfl) rDisk (Rds.cons rfl (by kernel_rfl) rInt (Rds.cons rfl (by kernel_rfl) rInts (Rds.cons rfl (by kernel_rfl) rDefects Rds.nil))))).map
    (fun p => ⟨p.1, p.2.1, p.2.2.1, p.2.2.2.1⟩) fun _ => rfl

theorem own : ownKnob Tryz.prog.godebug = none := by kernel_rfl
theorem laidOut : laidOutB Tryz.prog = true := by kernel_rfl
noncomputable abbrev format0 : Value := .agg #[.int .i64 0, .int .i64 0, .slice none 0 0, .int .i64 0, .int .i64 0, .int .i64 0, .int .i64 0, .int .i64 0, .int .i64 0, .int .i64 0, .slice none 0 0, .slice none 0 0]
noncomputable abbrev cut0 : Value := .agg #[.int .i64 0, .int .i64 0, .int .i64 0]

set_option maxRecDepth 100000 in
theorem order_lifted (walk : ∀ (f : Format) (c : Cut), PSpec env 3 [f.av, c.av] (.bool true)) (os : Os) (started : os.Started) (H : Type) (enc : TypeId × Value → H) :
    ReturnsInHanded {} Tryz.checked os 3 .any (Rows.layoutOrderSpec.pre6 enc Tryz.prog Tryz.f3 Rows.layoutOrderRow.domain false) (Rows.layoutOrderSpec.post enc Tryz.prog Tryz.f3 false true false false) := by
  refine returnsInHanded_of_change (C := Tryz.checked) own started (by kernel_rfl) Tryz.func3
    (ChangeSpec.witness6 (enc := enc) (C := Tryz.checked) false ⟨#[], #[format0, cut0], []⟩ 8 (by kernel_rfl) (by kernel_rfl) (by kernel_rfl) (by kernel_rfl)) ?_
  intro W base args ds gs before hval0 hW hcnd _
  have hval : ∀ (j : Nat) t v, Tryz.f3.params[j]? = some t → args[j]? = some v → Value.okWide Tryz.prog W .any base t v := hval0
  have hW' := hW
  obtain ⟨p, q, hA0, hV, rfl, hfz, hnd⟩ := hW
  have hA : DataW.TrodAll enc Tryz.prog W 0 (fun _ => true) true Tryz.f3.params.toList args.toList ds p := hA0
  rw [Tryz.params3] at hA hval
  obtain ⟨v0, vs0, d0, ds0, p0, q0, hargs, rfl, rfl, h0, r0⟩ := trodAll_cons hA
  obtain ⟨v1, vs1, d1, ds1, p1, q1, rfl, rfl, rfl, h1, r1⟩ := trodAll_cons r0
  obtain ⟨rfl, rfl, rfl⟩ := trodAll_nil r1
  obtain rfl : args = #[v0, v1] := by cases args; simp_all
  obtain ⟨rfl, rfl⟩ := trodVars_none hV
  obtain ⟨f, hf⟩ := rFormat.arg Tryz.underlying30 (hval 0 _ v0 rfl rfl) h0
  obtain ⟨c, hc⟩ := rCut.arg Tryz.underlying32 (hval 1 _ v1 rfl rfl) h1
  refine ((walk f c).calls (W := W) (vs := [v0, v1]) ⟨v0, _, rfl, hf, v1, _, rfl, hc, rfl⟩).mono fun e W' ⟨v, r, H', m', he, hr, hR, hb⟩ => ?_
  subst he hr
  obtain rfl : v = .bool true := hR
  exact ⟨_, rfl, post_kept laidOut (by kernel_rfl) rfl hW' (fun _ _ _ => trodAll_cons_mk (shut_bool Tryz.underlying4 _) trodAll_mk0) (fun _ => rfl) rfl hb (ok_one (by kernel_rfl) rfl (okWide_bool_mk Tryz.underlying4 _))⟩
theorem order_said (walk : ∀ (f : Format) (c : Cut), PSpec env 3 [f.av, c.av] (.bool true)) : Rows.LayoutOrderSaid :=
  OpenClaim.holds_of_wide 3 Tryz.f3 rfl rfl rfl rfl rfl rfl rfl ⟨rfl, rfl, rfl, rfl, rfl⟩ rfl rfl rfl rfl rfl (by kernel_rfl) Tryz.func3 (by kernel_rfl)
    (of_decide_eq_true (by kernel_rfl)) (by unfold Func.isWrapper; first | (rw [if_pos (by decide +kernel)]; kernel_rfl) | (rw [if_neg (by decide +kernel)]; exact ⟨rfl, rfl⟩))
    (fun os started H enc _ => order_lifted walk os started H enc)
end Go.Proofs.YtfbjoamdkieamaaGreat.AM
end

section
set_option linter.unusedSimpArgs false
set_option linter.unusedVariables false
set_option maxHeartbeats 8000000
namespace Go.Proofs.YtfbjoamdkieamaaGreat.AM
open Go Go.Proofs

/-- The messages, turned, and two of them once more. -/
def rotN (l : List Defect) (t : Int) (n : Nat) : List Defect := (List.range n).map fun (i : Nat) => l.getD (((i : Int) + t) % (l.length : Int)).toNat default
theorem rotN_succ (l : List Defect) (t : Int) (n : Nat) : rotN l t (n + 1) = rotN l t n ++ [l.getD (((n : Int) + t) % (l.length : Int)).toNat default] := by simp [rotN, List.range_succ]
theorem rotN_len (l : List Defect) (t : Int) (n : Nat) : (rotN l t n).length = n := by simp [rotN]
def turnL (l : List Defect) (t : Int) : List Defect :=
  if l.length = 0 then [] else rotN l t l.length ++ [(rotN l t l.length).getD 0 default, (rotN l t l.length).getD (l.length - 1) default]
theorem turnL_len (l : List Defect) (t : Int) : (turnL l t).length = if l.length = 0 then 0 else l.length + 2 := by
  unfold turnL
  split <;> simp [rotN_len]
def Format.avT (f : Format) : AV := .agg [.int .i64 f.disk.heads, .int .i64 f.disk.turn, .list false 2 (f.disk.zones.map Zone.av), .int .i64 f.disk.headSkew, .int .i64 f.disk.cylSkew, .int .i64 f.disk.hs.low, .int .i64 f.disk.hs.high, .int .i64 f.disk.cs.low, .int .i64 f.disk.cs.high,
  .int .i64 f.spares, .list false 1 (f.primary.map (.int .i64)), .list true 3 (f.grown.map Defect.av)]
def orderP (f : Format) (c : Cut) : Prop := readyP f ∧ f.grown.length ≤ 14 ∧ (0 ≤ c.cut ∧ c.cut ≤ f.grown.length) ∧ 0 ≤ c.turn ∧ c.turn ≤ 1000

theorem order_walk (f : Format) (c : Cut) (hworks : PSpec env 7 [] (.bool true))
    (a e : Int) (gv fr : List Int) (m : Format)
    (h : orderP f c → 
      PSpec env 9 [f.av, .int .i64 c.block] (.tuple [.int .i64 a, .int .i64 e]) ∧ PSpec env 9 [({ f with grown := turnL f.grown c.turn } : Format).avT, .int .i64 c.block] (.tuple [.int .i64 a, .int .i64 e]) ∧
      PSpec env 10 [f.av] (.tuple [.list true 1 (gv.map (.int .i64)), .int .i64 0]) ∧ PSpec env 10 [({ f with grown := turnL f.grown c.turn } : Format).avT] (.tuple [.list true 1 (gv.map (.int .i64)), .int .i64 0]) ∧
      PSpec env 11 [f.av] (.tuple [.list true 1 (fr.map (.int .i64)), .int .i64 0]) ∧ PSpec env 11 [({ f with grown := turnL f.grown c.turn } : Format).avT] (.tuple [.list true 1 (fr.map (.int .i64)), .int .i64 0]) ∧
      PSpec env 13 [f.av, .list true 0 []] (.tuple [m.av, .int .i64 0]) ∧
      PSpec env 13 [({ f with grown := (turnL f.grown c.turn).take c.cut.toNat } : Format).av, .list false 3 (((turnL f.grown c.turn).drop c.cut.toNat).map Defect.av)] (.tuple [m.av, .int .i64 0])) :
    PSpec env 3 [f.av, c.av] (.bool true) := by
  have hr := ready_spec f
  by_cases hP : orderP f c
  · obtain ⟨h1, h2, h3, h4, h5, h6, h7, h8⟩ := h hP
    obtain ⟨p1, p2, p3, p4⟩ := hP
    have hg1 := sameInts_spec true true gv gv
    have hg2 := sameInts_spec true true fr fr
    have hS := Same_spec m m
    simp only [decide_true] at hg1 hg2 hS
    rw [decide_eq_true p1] at hr
    have hlim : f.disk.zones.length ≤ 4 ∧ f.primary.length ≤ 60 := by
      obtain ⟨_, p5⟩ := p1
      unfold Format.status at p5
      split at p5
      · rename_i hd
        split at p5
        · rename_i hf
          have := hd.1
          unfold headOK at this
          exact ⟨by omega, hf.2.1⟩
        · omega
      · omega
    have hcp := Copy03_spec f (by omega) (by omega) (by omega)
    clear h
    refine Spec.introR (nt := _) (rs := [_]) Tryz.func3 rfl rfl rfl rfl rfl [] (fun _ h => absurd rfl h) fun X hX => ?_
    repeat' (first | refine GoC.seq ?_ | refine GoC.block ?_ | refine GoC.region rfl ?_ | refine GoC.skip ?_ | refine GoC.cond_t rfl ?_ | (refine GoC.cond_d rfl ?_ ?_ <;> intro _ <;> try contradiction) | refine GoOps.nil ?_ | refine GoOps.a rfl ?_ | refine GoOps.u rfl rfl rfl rfl ?_ | refine GoOps.gs rfl rfl rfl rfl ?_ | refine GoOps.p (OpL.len rfl rfl) ?_ | refine GoOps.m (OpL.boxw (by rfl) rfl rfl rfl rfl) ?_ | refine GoOps.p (OpL.call rfl rfl (hr) rfl rfl) ?_ | (refine GoOps.sd rfl rfl ?_ ?_ <;> intro _ <;> try contradiction))
    iterate 4 (· exfalso; omega)
    · exfalso; omega
    refine GoC.loop (G := Nat) (fun i => ⟨ofL .junk [(2, .ptr 2 12 0 0), (3, .ptr 3 3 0 0), (5, .sl true 1000005 3 0 i), (6, .int .i64 i)],
        ofL .free [(2, .arr 30 12 [f.av]), (3, .arr 32 3 [c.av]), (1000005, .arr 36 3 ((rotN f.grown c.turn i).map Defect.av))], []⟩)
      (fun i => i ≤ f.grown.length) (fun i => f.grown.length - i) 0 (Nat.zero_le _) ((AS.sub.nilrow 5 1000005 36 3 rfl rfl).trans (by (refine AS.sub.mk' _ _ (lk []) rfl rfl ?_ ?_ <;> repeat' (first | exact True.intro | rfl | exact Wk.refl _ | exact ⟨_, rfl, Elems.all rfl⟩ | refine And.intro ?_ ?_)))) ?_
    intro i hi R hR
    have hln := rotN_len f.grown c.turn i
    have hm : 0 < (f.grown.length : Int) → 0 ≤ ((i : Int) + c.turn) % (f.grown.length : Int) ∧ ((i : Int) + c.turn) % (f.grown.length : Int) < f.grown.length := fun h => ⟨Int.emod_nonneg _ (by omega), Int.emod_lt_of_pos _ h⟩
    repeat' (first | refine GoC.seq ?_ | refine GoC.block ?_ | refine GoC.region rfl ?_ | refine GoC.draw env_mixed ?_ | refine GoC.skip ?_ | refine GoC.exit ?_ | (refine GoC.cond_d rfl ?_ ?_ <;> intro _ <;> try contradiction) | refine GoOps.nil ?_ | refine GoD.done rfl rfl (by kernel_rfl) ?_ | refine GoOps.a rfl ?_ | refine GoD.a rfl ?_ | refine GoOps.p (OpL.len rfl rfl) ?_ | refine GoD.p (OpL.len rfl rfl) ?_ | refine GoOps.p (OpL.len_s rfl rfl) ?_ | refine GoD.p (OpL.len_s rfl rfl) ?_ | refine GoD.p (OpL.idxn rfl rfl rfl rfl rfl rfl (by (first | assumption | omega))) ?_ | refine GoD.p (OpL.idx_sn rfl rfl rfl rfl rfl rfl (by (first | assumption | omega))) ?_ | refine GoOps.p (OpL.add rfl rfl (by (first | assumption | omega))) ?_ | refine GoD.p (OpL.add rfl rfl (by (first | assumption | omega))) ?_ | refine GoD.p (OpL.sub rfl rfl (by (first | assumption | omega))) ?_ | refine GoD.p (OpL.remn rfl rfl (by (first | assumption | omega)) (by (first | assumption | omega))) ?_ | refine GoD.m (OpL.row rfl) ?_ | refine GoD.m (OpL.app rfl rfl rfl rfl rfl rfl rfl rfl rfl rfl rfl (by (first | rfl | omega | (simp only [List.length_take, List.length_drop, List.length_map, List.length_append, List.length_cons, List.length_nil] <;> omega))) (by (first | rfl | omega | (simp only [List.length_take, List.length_drop, List.length_map, List.length_append, List.length_cons, List.length_nil] <;> omega))) (by (first | rfl | omega | (simp only [List.length_take, List.length_drop, List.length_map, List.length_append, List.length_cons, List.length_nil] <;> omega)))) ?_ | refine GoD.p (OpL.ldm rfl rfl (by (first | assumption | omega)) rfl (fun _ => rfl)) ?_)
    · refine hR (i + 1) _ (by omega) (by omega) ?_
      rw [rotN_succ]
      refine AS.sub.mk' _ _ (lk [(1000005, 78)]) rfl rfl ?_ ?_ <;> repeat' (first | exact True.intro | rfl | exact Wk.refl _ | exact Wk.of_eq (congrArg (AV.sl _ _ _ _) (by (first | rfl | omega | (simp only [List.length_take, List.length_drop, List.length_map, List.length_append, List.length_cons, List.length_nil] <;> omega)))) | exact ⟨_, rfl, Elems.all rfl⟩ | exact ⟨_, rfl, Elems.of_eq (by rw [List.map_append]; rfl) (noId_map (fun _ => rfl) _)⟩ | refine And.intro ?_ ?_)
    all_goals (obtain rfl : i = f.grown.length := by omega)
    all_goals apply GoOps.sub (s' := ⟨ofL .junk [(2, .ptr 2 12 0 0), (3, .ptr 3 3 0 0), (5, .sl true 1000005 3 0 (turnL f.grown c.turn).length), (94, f.av)], ofL .free [(2, .arr 30 12 [f.av]), (3, .arr 32 3 [c.av]), (1000005, .arr 36 3 ((turnL f.grown c.turn).map Defect.av))], []⟩)
    · have ht : turnL f.grown c.turn = rotN f.grown c.turn f.grown.length ++ [(rotN f.grown c.turn f.grown.length).getD 0 default, (rotN f.grown c.turn f.grown.length).getD (f.grown.length - 1) default] := by rw [turnL, if_neg (by omega)]
      have e : ((f.grown.length : Int) - 1).toNat = f.grown.length - 1 := by omega
      rw [ht, e]
      refine AS.sub.mk' _ _ (lk [(1000005, 93)]) rfl rfl ?_ ?_ <;> repeat' (first | exact True.intro | rfl | exact Wk.refl _ | exact Wk.of_eq (congrArg (AV.sl _ _ _ _) (by (first | rfl | omega | (simp only [List.length_take, List.length_drop, List.length_map, List.length_append, List.length_cons, List.length_nil] <;> omega)))) | exact ⟨_, rfl, Elems.all rfl⟩ | exact ⟨_, rfl, Elems.of_eq (by rw [List.map_append]; rfl) (noId_map (fun _ => rfl) _)⟩ | refine And.intro ?_ ?_)
    rotate_left
    · have h0 : f.grown.length = 0 := by omega
      have ht : turnL f.grown c.turn = [] := by rw [turnL, if_pos h0]
      rw [ht, h0]
      (refine AS.sub.mk' _ _ (lk []) rfl rfl ?_ ?_ <;> repeat' (first | exact True.intro | rfl | exact Wk.refl _ | exact ⟨_, rfl, Elems.all rfl⟩ | refine And.intro ?_ ?_))
    all_goals clear hm hR hln
    all_goals have hlt := turnL_len f.grown c.turn
    all_goals have hlt2 : f.grown.length ≤ (turnL f.grown c.turn).length ∧ (turnL f.grown c.turn).length ≤ 16 := by rw [hlt]; split <;> omega
    all_goals generalize hl : turnL f.grown c.turn = l at *
    all_goals
      repeat' (first | refine GoC.seq ?_ | refine GoC.region rfl ?_ | refine GoOps.nil ?_ | refine GoOps.a rfl ?_ | refine GoOps.b rfl ?_ | refine GoOps.n (OpL.st1 rfl) ?_ | refine GoOps.p (OpL.call rfl rfl (hcp) rfl rfl) ?_ | refine GoOps.p (OpL.call rfl rfl (h1) rfl rfl) ?_)
      refine GoOps.sub (AS.sub.frzo [1000005] [(5, .list true 3 (l.map Defect.av)), (106, ({ f with grown := l } : Format).avT)] [(7, .arr 30 12 [({ f with grown := l } : Format).avT])] ?_ ?_) ?_
      · repeat' (first | exact True.intro | exact Fz.same _ | exact Fz.mp rfl rfl (fun _ => rfl) (by (first | rfl | omega | (simp only [List.length_take, List.length_drop, List.length_map, List.length_append, List.length_cons, List.length_nil] <;> omega))) | refine Fz.agg1 ?_ ?_ | refine And.intro ?_ ?_)
      · repeat' (first | exact ⟨⟨by decide, _, rfl, ElF.cons (by repeat' (first | exact Fz.same _ | exact Fz.mp rfl rfl (fun _ => rfl) (by (first | rfl | omega | (simp only [List.length_take, List.length_drop, List.length_map, List.length_append, List.length_cons, List.length_nil] <;> omega))) | refine Fz.agg1 ?_ ?_)) (ElF.same _)⟩, trivial⟩)
      repeat' (first | refine GoC.seq ?_ | refine GoC.region rfl ?_ | refine GoC.skip ?_ | refine GoC.cond_f rfl ?_ | refine GoOps.nil ?_ | refine GoOps.a rfl ?_ | refine GoOps.u rfl rfl rfl rfl ?_ | refine GoOps.b rfl ?_ | refine GoOps.p (OpL.sto rfl rfl rfl rfl rfl (by (first | assumption | omega))) ?_ | refine GoOps.m (OpL.row rfl) ?_ | refine GoOps.m (OpL.appl rfl rfl rfl rfl rfl rfl rfl rfl rfl (fun _ => rfl) (by (first | rfl | omega | (simp only [List.length_take, List.length_drop, List.length_map, List.length_append, List.length_cons, List.length_nil] <;> omega))) (by (first | rfl | omega | (simp only [List.length_take, List.length_drop, List.length_map, List.length_append, List.length_cons, List.length_nil] <;> omega)))) ?_ | refine GoOps.n (OpL.st1 rfl) ?_ | refine GoOps.p (OpL.call rfl rfl (h2) rfl rfl) ?_ | refine GoOps.p (OpL.call rfl rfl (h3) rfl rfl) ?_ | refine GoOps.p (OpL.call rfl rfl (h4) rfl rfl) ?_ | refine GoOps.p (OpL.call rfl rfl (h5) rfl rfl) ?_ | refine GoOps.p (OpL.call rfl rfl (h6) rfl rfl) ?_ | refine GoOps.p (OpL.call rfl rfl (h7) rfl rfl) ?_ | refine GoOps.p (OpL.call rfl rfl (hg1) rfl rfl) ?_ | refine GoOps.p (OpL.call rfl rfl (hg2) rfl rfl) ?_ | (refine GoOps.sd rfl rfl ?_ ?_ <;> intro _ <;> try contradiction))
      refine GoC.frz [178] [] [(7, .arr 30 12 [({ f with grown := l.take c.cut.toNat } : Format).av])] trivial ?_ ?_
      · repeat' (first | exact ⟨⟨by decide, _, rfl, ElF.cons (by repeat' (first | exact Fz.same _ | exact Fz.mp rfl rfl (fun _ => rfl) (by (first | rfl | omega | (simp only [List.length_take, List.length_drop, List.length_map, List.length_append, List.length_cons, List.length_nil] <;> omega))) | refine Fz.agg1 ?_ ?_)) (ElF.same _)⟩, trivial⟩)
      repeat' (first | refine GoC.seq ?_ | refine GoC.region rfl ?_ | refine GoC.draw env_mixed ?_ | refine GoC.ret ?_ | refine GoOps.nil ?_ | refine GoD.done rfl rfl (by kernel_rfl) ?_ | refine GoOps.a rfl ?_ | refine GoOps.u rfl rfl rfl rfl ?_ | refine GoD.a rfl ?_ | refine GoD.b rfl ?_ | refine GoD.p (OpL.sfr rfl rfl rfl rfl rfl (by (first | assumption | omega))) ?_ | refine GoD.n (OpL.st1 rfl) ?_ | refine GoD.p (OpL.call rfl rfl (h8) rfl rfl) ?_ | refine GoOps.p (OpL.call rfl rfl (hS) rfl rfl) ?_ | refine GoOps.p (OpL.call rfl rfl (hworks) rfl rfl) ?_)
      ((try dsimp only [thenA, inBlockA]); refine FnPost.many (.inr rfl) (RetOK.hv rfl RetOK.nil) ?_; (try dsimp only [tup]))
  · have hr2 : (readyP f ∧ PSpec env 6 [f.av] (.bool true)) ∨ (¬ readyP f ∧ PSpec env 6 [f.av] (.bool false)) := by
      by_cases h1 : readyP f
      · rw [decide_eq_true h1] at hr; exact .inl ⟨h1, hr⟩
      · rw [decide_eq_false h1] at hr; exact .inr ⟨h1, hr⟩
    rcases hr2 with ⟨h1, hr2⟩ | ⟨h1, hr2⟩
    · refine Spec.introR (nt := _) (rs := [_]) Tryz.func3 rfl rfl rfl rfl rfl [] (fun _ h => absurd rfl h) fun X hX => ?_
      repeat' (first | refine GoC.seq ?_ | refine GoC.block ?_ | refine GoC.region rfl ?_ | refine GoC.skip ?_ | refine GoC.ret ?_ | refine GoC.cond_t rfl ?_ | (refine GoC.cond_d rfl ?_ ?_ <;> intro _ <;> try contradiction) | refine GoOps.nil ?_ | refine GoOps.a rfl ?_ | refine GoOps.u rfl rfl rfl rfl ?_ | refine GoOps.gs rfl rfl rfl rfl ?_ | refine GoOps.p (OpL.len rfl rfl) ?_ | refine GoOps.m (OpL.boxw (by rfl) rfl rfl rfl rfl) ?_ | refine GoOps.p (OpL.call rfl rfl (hr2) rfl rfl) ?_ | refine GoOps.p (OpL.call rfl rfl (hworks) rfl rfl) ?_ | (refine GoOps.sd rfl rfl ?_ ?_ <;> intro _ <;> try contradiction))
      all_goals first | (((try dsimp only [thenA, inBlockA]); refine FnPost.many (.inr rfl) (RetOK.hv rfl RetOK.nil) ?_; (try dsimp only [tup])); done) | (exfalso; exact hP ⟨h1, by omega, ⟨by omega, by omega⟩, by omega, by omega⟩)
    · refine Spec.introR (nt := _) (rs := [_]) Tryz.func3 rfl rfl rfl rfl rfl [] (fun _ h => absurd rfl h) fun X hX => ?_
      repeat' (first | refine GoC.seq ?_ | refine GoC.region rfl ?_ | refine GoC.ret ?_ | refine GoC.cond_t rfl ?_ | refine GoOps.nil ?_ | refine GoOps.a rfl ?_ | refine GoOps.gs rfl rfl rfl rfl ?_ | refine GoOps.m (OpL.boxw (by rfl) rfl rfl rfl rfl) ?_ | refine GoOps.p (OpL.call rfl rfl (hr2) rfl rfl) ?_ | refine GoOps.p (OpL.call rfl rfl (hworks) rfl rfl) ?_)
      ((try dsimp only [thenA, inBlockA]); refine FnPost.many (.inr rfl) (RetOK.hv rfl RetOK.nil) ?_; (try dsimp only [tup]))
end Go.Proofs.YtfbjoamdkieamaaGreat.AM
end

section
set_option linter.unusedSimpArgs false
set_option linter.unusedVariables false
set_option maxHeartbeats 8000000
namespace Go.Proofs.YtfbjoamdkieamaaGreat.AM
open Go Go.Proofs Go.Sort

theorem agree_of {l : List Defect} (h : ¬ clashP l) : agree l := by
  intro a ha b hb hid
  obtain ⟨i, hi, rfl⟩ := List.mem_iff_getElem.1 ha
  obtain ⟨j, hj, rfl⟩ := List.mem_iff_getElem.1 hb
  refine Decidable.byContradiction fun hne => h ?_
  rcases Nat.lt_trichotomy i j with h1 | h1 | h1
  · exact ⟨j, hj, i, h1, by simp only [nth, gd hi, gd hj]; exact hid.symm, by simp only [nth, gd hi, gd hj]; exact fun e => hne e.symm⟩
  · subst h1; exact absurd rfl hne
  · exact ⟨i, hi, j, h1, by simp only [nth, gd hi, gd hj]; exact hid, by simp only [nth, gd hi, gd hj]; exact hne⟩
theorem noClash {l : List Defect} (h : agree l) : ¬ clashL l := by unfold clashL; rw [diff_all h]; omega
/-- A format that a statement examines. -/
structure Rdy (f : Format) : Prop where
  disk : f.disk.ok
  form : formatP f
  agree : AM.agree f.grown
theorem readyP.rdy {f : Format} (h : readyP f) : Rdy f := by
  have h := h.2
  unfold Format.status at h
  split at h
  · rename_i h1
    split at h
    · rename_i h2
      split at h
      · omega
      · rename_i h3; exact ⟨h1, h2, agree_of h3⟩
    · omega
  · omega
theorem Rdy.check {f : Format} (h : Rdy f) : f.check = 0 := by
  have h1 : f.form = 0 := by rw [Format.form, if_pos h.disk, if_pos h.form]
  rw [Format.check, if_pos h1, if_neg (noClash h.agree)]
theorem Rdy.inVD {f : Format} (h : Rdy f) : inVD f.grown := h.form.inVD
theorem Rdy.lens {f : Format} (h : Rdy f) : f.disk.zones.length ≤ 4 ∧ f.primary.length ≤ 60 ∧ f.grown.length ≤ 30 := by
  have h1 := h.disk.1
  unfold headOK at h1
  exact ⟨by omega, h.form.2.1, h.form.2.2.1⟩
theorem Rdy.less {f : Format} (h : Rdy f) {l : List Defect} (hl : ∀ x ∈ l, x ∈ f.grown) (hn : l.length ≤ 30) : Rdy { f with grown := l } := by
  obtain ⟨h1, h2, h3⟩ := h
  refine ⟨h1, ⟨h2.1, h2.2.1, hn, h2.2.2.2.1, fun i hi => ?_⟩, fun a ha b hb => h3 a (hl a ha) b (hl b hb)⟩
  have hm : (nth l i) ∈ f.grown := hl _ (by simp only [nth]; rw [gd hi]; exact List.getElem_mem hi)
  obtain ⟨j, hj, he⟩ := List.mem_iff_getElem.1 hm
  have := h2.2.2.2.2 j hj
  simp only [nth, gd hj] at this
  rw [he] at this
  exact this
theorem Rdy.layP {f : Format} (h : Rdy f) {l : List Defect} (hl : ∀ x, x ∈ l ↔ x ∈ f.grown) : AM.layP { f with grown := l } = AM.layP f := by
  have hg : AM.agree l := fun a ha b hb => h.agree a ((hl a).1 ha) b ((hl b).1 hb)
  have e : lDone l = lDone f.grown := lDone_eq hg h.agree hl h.inVD
  unfold AM.layP msgs
  rw [show ({ f with grown := l } : Format).grown = l from rfl, e]
  rfl
theorem Rdy.valid {f : Format} (h : Rdy f) : Valid f := ⟨h.check⟩

theorem rotN_mem {l : List Defect} {t : Int} (x : Defect) : x ∈ rotN l t l.length ↔ x ∈ l := by
  unfold rotN
  simp only [List.mem_map, List.mem_range]
  constructor
  · rintro ⟨i, hi, rfl⟩
    have h1 := Int.emod_nonneg ((i : Int) + t) (b := (l.length : Int)) (by omega)
    have h2 := Int.emod_lt_of_pos ((i : Int) + t) (b := (l.length : Int)) (by omega)
    have h3 : (((i : Int) + t) % (l.length : Int)).toNat < l.length := by omega
    rw [gd h3]; exact List.getElem_mem h3
  · intro hx
    obtain ⟨j, hj, rfl⟩ := List.mem_iff_getElem.1 hx
    have h1 := Int.emod_nonneg ((j : Int) - t) (b := (l.length : Int)) (by omega)
    have h2 := Int.emod_lt_of_pos ((j : Int) - t) (b := (l.length : Int)) (by omega)
    refine ⟨(((j : Int) - t) % (l.length : Int)).toNat, by omega, ?_⟩
    rw [Int.toNat_of_nonneg h1, Int.emod_add_emod, Int.sub_add_cancel, Int.emod_eq_of_lt (by omega) (by omega), Int.toNat_natCast, gd hj]
theorem turnL_mem {l : List Defect} {t : Int} (x : Defect) : x ∈ turnL l t ↔ x ∈ l := by
  unfold turnL
  split
  · rename_i h; rw [List.eq_nil_of_length_eq_zero h]
  · rename_i h
    rw [List.mem_append, rotN_mem]
    refine ⟨fun hx => ?_, .inl⟩
    rcases hx with hx | hx
    · exact hx
    · have hln := rotN_len l t l.length
      simp only [List.mem_cons, List.not_mem_nil, or_false] at hx
      rw [← rotN_mem (t := t)]
      rcases hx with rfl | rfl
      · rw [gd (by omega)]; exact List.getElem_mem _
      · rw [gd (by omega)]; exact List.getElem_mem _

/-! ### works -/
theorem ex_rdy : Rdy exFormat := ⟨by decide, by decide, agree_of (by decide)⟩
def exMsgs : List Defect := [⟨1, 5, 4⟩, ⟨5, 6, 30⟩, ⟨3, 7, 33⟩, ⟨4, 8, 23⟩, ⟨2, 9, 22⟩]
instance (x y : Defect) : Decidable (lt2 x y) := by unfold lt2; infer_instance
theorem ex_msgs : msgs exFormat = exMsgs := by
  have h : lDone exFormat.grown = exFormat.grown := by kernel_rfl
  have h2 : exMsgs.Perm exFormat.grown := by decide
  have h3 : exMsgs.Pairwise lt2 := by decide
  rw [msgs, h, ← stSort_eq h2 h3]
theorem ex_lay : layP exFormat = growL exFormat (plan0 exFormat) exMsgs := by rw [layP, ex_msgs]
theorem works_spec : PSpec env 7 [] (.bool true) := by
  have hv := ex_rdy.valid
  have h1 := Blocks_spec exFormat hv
  have h2 := Where_spec exFormat hv 26
  have h3 := Lost_spec exFormat hv
  rw [ex_lay] at h1 h2 h3
  rw [show ((growL exFormat (plan0 exFormat) exMsgs).blocks.length : Int) = 28 from by kernel_rfl] at h1
  rw [show (growL exFormat (plan0 exFormat) exMsgs).where_ 26 = (32, 0) from by kernel_rfl] at h2
  rw [show (growL exFormat (plan0 exFormat) exMsgs).lost = [3] from by kernel_rfl] at h3
  have h4 := exFormat_spec
  have h5 := sameInts_spec true false [3] [3]
  simp only [decide_true] at h5
  generalize exFormat = f at *
  refine Spec.intro (nt := _) (rs := [_]) Tryz.func7 rfl rfl rfl rfl rfl [] (fun _ h => absurd rfl h) fun X => ?_
  repeat' (first | refine GoC.seq ?_ | refine GoC.region rfl ?_ | refine GoOps.nil ?_ | refine GoOps.a rfl ?_ | refine GoOps.u rfl rfl rfl rfl ?_ | refine GoOps.b rfl ?_ | refine GoOps.m (OpL.row rfl) ?_ | refine GoOps.n (OpL.st1 rfl) ?_ | refine GoOps.p (OpL.call rfl rfl (h4) rfl rfl) ?_ | refine GoOps.p (OpL.call rfl rfl (h1) rfl rfl) ?_ | refine GoOps.p (OpL.call rfl rfl (h2) rfl rfl) ?_ | refine GoOps.p (OpL.call rfl rfl (h3) rfl rfl) ?_)
  refine GoOps.sub (AS.sub.frz [44] [(44, .list false 1 ([(3 : Int)].map (.int .i64)))] ⟨Fz.mp rfl rfl (fun _ => rfl) (by (first | rfl | omega | (simp only [List.length_take, List.length_drop, List.length_map, List.length_append, List.length_cons, List.length_nil] <;> omega))), trivial⟩) ?_
  repeat' (first | refine GoC.ret ?_ | refine GoOps.nil ?_ | refine GoOps.a rfl ?_ | refine GoOps.p (OpL.call rfl rfl (h5) rfl rfl) ?_)
  ((try dsimp only [thenA, inBlockA]); refine FnPost.many (.inr rfl) (RetOK.hv rfl RetOK.nil) ?_; (try dsimp only [tup]))

theorem Wk.agg {xs ys : List AV} (h : Wks xs ys) : Wk (.agg xs) (.agg ys) := fun m v ⟨vs, h1, h2⟩ => ⟨vs, h1, h.RS h2⟩
theorem Format.avT_wk (f : Format) : Wk f.avT f.av :=
  .agg (.cons (.refl _) (.cons (.refl _) (.cons (.refl _) (.cons (.refl _) (.cons (.refl _) (.cons (.refl _) (.cons (.refl _) (.cons (.refl _) (.cons (.refl _) (.cons (.refl _) (.cons (.refl _) (.cons (.list _ _ _) .nil))))))))))))

theorem diffOf_len {l : List Defect} (h : agree l) : (diffOf l).length ≤ l.length := by rw [diff_all h]; exact allOf_len l
theorem Rdy.merge {f : Format} (h : Rdy f) (more : List Defect) (hm : Rdy { f with grown := more }) (ha : AM.agree (f.grown ++ more)) (hn : (diffOf (f.grown ++ more)).length ≤ 30) : PSpec env 13 [f.av, defs more] (.tuple [(f.merge more).av, .int .i64 0]) := by
  have h1 := h.lens
  have h2 := hm.lens
  have h3 := h2.2.2
  refine Merge_spec f more h.check hm.check hn (noClash ha) (by omega) (by omega) (by rw [List.length_append]; have : more.length ≤ 30 := h3; omega) fun d hd => ?_
  rcases List.mem_append.1 hd with hd | hd
  · exact h.inVD d hd
  · exact hm.inVD d hd

theorem LayoutOrder_holds (f : Format) (c : Cut) : PSpec env 3 [f.av, c.av] (.bool true) := by
  refine order_walk f c works_spec ((layP f).where_ c.block).1 ((layP f).where_ c.block).2 (layP f).secs (layP f).spares (f.merge []) fun hP => ?_
  obtain ⟨h0, h1, h2, h3, h4⟩ := hP
  have hr := h0.rdy
  have hv := hr.valid
  have hln := turnL_len f.grown c.turn
  have hl16 : (turnL f.grown c.turn).length ≤ 16 := by rw [hln]; split <;> omega
  have ho := hr.less (l := turnL f.grown c.turn) (fun x hx => (turnL_mem x).1 hx) (by omega)
  have hvo := ho.valid
  have hlay := hr.layP (l := turnL f.grown c.turn) turnL_mem
  have hW := Where_spec _ hvo c.block
  have hG := Given_spec _ hvo
  have hF := Free_spec _ hvo
  rw [hlay] at hW hG hF
  have hw1 : Wks [({ f with grown := turnL f.grown c.turn } : Format).avT] [({ f with grown := turnL f.grown c.turn } : Format).av] := .cons (Format.avT_wk _) .nil
  have hw2 : Wks [({ f with grown := turnL f.grown c.turn } : Format).avT, .int .i64 c.block] [({ f with grown := turnL f.grown c.turn } : Format).av, .int .i64 c.block] := .cons (Format.avT_wk _) (.cons (.refl _) .nil)
  have hd2 := diffOf_len hr.agree
  refine ⟨Where_spec f hv c.block, hW.wk hw2, Given_spec f hv, hG.wk hw1, Free_spec f hv, hF.wk hw1, ?_, ?_⟩
  · have := hr.merge [] (hr.less (fun x hx => by simp at hx) (by simp)) (by rw [List.append_nil]; exact hr.agree) (by rw [List.append_nil]; omega)
    exact this.wk (.cons (.refl _) (.cons (.nil _ _) .nil))
  · generalize hL : turnL f.grown c.turn = l at *
    have hmem : ∀ x, x ∈ l ↔ x ∈ f.grown := fun x => by rw [← hL]; exact turnL_mem x
    have hk : c.cut.toNat ≤ 16 := by omega
    have ht := hr.less (l := l.take c.cut.toNat) (fun x hx => (hmem x).1 (List.mem_of_mem_take hx)) (by rw [List.length_take]; omega)
    have hd := hr.less (l := l.drop c.cut.toNat) (fun x hx => (hmem x).1 (List.mem_of_mem_drop hx)) (by rw [List.length_drop]; omega)
    have hal : agree l := ho.agree
    have hm := ht.merge (l.drop c.cut.toNat) hd (by show agree (l.take c.cut.toNat ++ l.drop c.cut.toNat); rw [List.take_append_drop]; exact hal)
      (by show (diffOf (l.take c.cut.toNat ++ l.drop c.cut.toNat)).length ≤ 30; rw [List.take_append_drop]; have := diffOf_len hal; omega)
    have e : ({ f with grown := l.take c.cut.toNat } : Format).merge (l.drop c.cut.toNat) = f.merge [] := by
      show copyF _ _ (lDone (l.take c.cut.toNat ++ l.drop c.cut.toNat)) = copyF _ _ (lDone (f.grown ++ []))
      rw [List.take_append_drop, List.append_nil, lDone_eq hal hr.agree hmem hr.inVD]
      rfl
    rw [e] at hm
    exact hm

/-- For every format, cut, turn and block the law LayoutOrder returns true, and leaves its arguments as they were. -/
theorem layoutOrder_proved : Rows.LayoutOrderSaid := order_said LayoutOrder_holds
end Go.Proofs.YtfbjoamdkieamaaGreat.AM
end

section
set_option linter.unusedSimpArgs false
set_option linter.unusedVariables false
set_option maxHeartbeats 8000000
namespace Go.Proofs.YtfbjoamdkieamaaGreat.AM
open Go Go.Proofs Go.Sort

/-- What the program finds of a sector: the block, and an error. -/
def Plan.holder (d : Disk) (p : Plan) (s : Int) : Int × Int := if s < 0 ∨ d.count ≤ s then (0, 1) else if ixOf s p.blocks < 0 then (0, 3) else (ixOf s p.blocks, 0)
theorem Holder_spec (f : Format) (hf : Valid f) (s : Int) : PSpec env 17 [f.av, .int .i64 s] (.tuple [.int .i64 ((layP f).holder f.disk s).1, .int .i64 ((layP f).holder f.disk s).2]) := by
  have hlay := hf.lay
  have hok := (Format.check_of hf.check).1
  have hsz := SizeOk_spec hok
  have hbl : (layP f).blocks.length ≤ 10000 := hf.good.blocks
  generalize layP f = p at *
  have hix := Index_spec true p.blocks s (by omega)
  simp only [planO] at hlay
  refine Spec.introR (nt := _) (rs := [_, _]) Tryz.func17 rfl rfl rfl rfl rfl [] (fun i h => absurd rfl h) fun X hX => ?_
  repeat' (first | refine GoC.seq ?_ | refine GoC.region rfl ?_ | refine GoOps.nil ?_ | refine GoOps.a rfl ?_ | refine GoOps.m (OpL.boxw (by rfl) rfl rfl rfl rfl) ?_)
  refine GoOps.m (OpL.callO (lk []) rfl rfl hlay rfl rfl trivial (by rfl) (by rfl) (post := [(1000040, _), (1000041, _), (1000042, _), (1000043, _)])
      (by exact ⟨⟨rfl, ⟨_, rfl, OutE.ren rfl⟩, .inr rfl⟩, ⟨rfl, ⟨_, rfl, OutE.mapped fun _ => rfl⟩, .inr rfl⟩, ⟨rfl, ⟨_, rfl, OutE.mapped fun _ => rfl⟩, .inr rfl⟩, ⟨rfl, ⟨rfl, ents_noId (fun _ => rfl) (fun _ => rfl)⟩, .inr rfl⟩, trivial⟩) (by rfl) (by rfl)) ?_
  repeat' (first | refine GoC.seq ?_ | refine GoC.region rfl ?_ | refine GoC.skip ?_ | refine GoC.ret ?_ | refine GoC.cond_t rfl ?_ | refine GoC.cond_f rfl ?_ | (refine GoC.cond_d rfl ?_ ?_ <;> intro _ <;> try contradiction) | refine GoOps.nil ?_ | refine GoOps.a rfl ?_ | refine GoOps.u rfl rfl rfl rfl ?_ | refine GoOps.gs rfl rfl rfl rfl ?_ | refine GoOps.p (OpL.call rfl rfl (hsz) rfl rfl) ?_ | (refine GoOps.sd rfl rfl ?_ ?_ <;> intro _ <;> try contradiction))
  · ((try dsimp only [thenA, inBlockA]); refine FnPost.many (.inr rfl) (RetOK.hv rfl (RetOK.hv rfl RetOK.nil)) ?_; (try dsimp only [tup])); unfold Plan.holder; rw [if_pos (.inl (by assumption))]
  · ((try dsimp only [thenA, inBlockA]); refine FnPost.many (.inr rfl) (RetOK.hv rfl (RetOK.hv rfl RetOK.nil)) ?_; (try dsimp only [tup])); unfold Plan.holder; rw [if_pos (.inr (by assumption))]
  · refine GoOps.sub (AS.sub.frz [1000041] [(35, .list true 1 (p.blocks.map (.int .i64)))] ⟨Fz.mp rfl rfl (fun _ => rfl) (by simp), trivial⟩) ?_
    repeat' (first | refine GoC.seq ?_ | refine GoC.region rfl ?_ | refine GoC.skip ?_ | refine GoC.ret ?_ | (refine GoC.cond_d rfl ?_ ?_ <;> intro _ <;> try contradiction) | refine GoOps.nil ?_ | refine GoOps.a rfl ?_ | refine GoOps.p (OpL.call rfl rfl (hix) rfl rfl) ?_)
    · ((try dsimp only [thenA, inBlockA]); refine FnPost.many (.inr rfl) (RetOK.hv rfl (RetOK.hv rfl RetOK.nil)) ?_; (try dsimp only [tup])); unfold Plan.holder; rw [if_neg (by omega), if_pos (by assumption)]
    · ((try dsimp only [thenA, inBlockA]); refine FnPost.many (.inr rfl) (RetOK.hv rfl (RetOK.hv rfl RetOK.nil)) ?_; (try dsimp only [tup])); unfold Plan.holder; rw [if_neg (by omega), if_neg (by assumption)]

theorem lostK_spec (f : Format) (p : Plan) (hl : p.blocks.length ≤ 10000) : Spec env 47 [.ptr 1000040 15 0 0] (ofL .free (planO f p)) (fun r H' => r = .list true 1 (p.lost.map (.int .i64)) ∧ ∀ q ∈ planO f p, H' q.1 = q.2) := by
  refine Spec.introR (nt := _) (rs := [_]) Tryz.func47 rfl rfl rfl rfl rfl [1000040, 1000041, 1000042, 1000043] (fun i h => ofL_keys _ i h) fun X hX => ?_
  simp only [planO]
  repeat' (first | refine GoC.seq ?_ | refine GoC.block ?_ | refine GoC.region rfl ?_ | refine GoOps.nil ?_ | refine GoOps.a rfl ?_ | refine GoOps.p (OpL.len_s rfl rfl) ?_)
  refine GoC.loop (G := Nat) (fun i => ⟨ofL .junk [(3, .sl true 1000003 1 0 (lostN p.blocks i).length), (9, .sl true 1000041 1 0 p.blocks.length), (10, .int .i64 p.blocks.length), (11, .int .i64 i)],
      ofL .free (planO f p ++ [(1000003, .arr 3 1 ((lostN p.blocks i).map (.int .i64)))]), [1000040, 1000041, 1000042, 1000043]⟩)
    (fun i => i ≤ p.blocks.length) (fun i => p.blocks.length - i) 0 (Nat.zero_le _) ((AS.sub.nilrow 3 1000003 3 1 rfl rfl).trans (by simp only [planO, List.cons_append, List.nil_append]; (refine AS.sub.mk' _ _ (lk []) rfl rfl ?_ ?_ <;> repeat' (first | exact True.intro | rfl | exact Wk.refl _ | exact ⟨_, rfl, Elems.all rfl⟩ | exact ⟨_, rfl, Elems.mapped (fun _ => rfl) rfl⟩ | exact ⟨rfl, ents_noId (fun _ => rfl) (fun _ => rfl)⟩ | exact ⟨_, rfl, Elems.ren (Wks.refl _) rfl⟩ | refine And.intro ?_ ?_)))) ?_
  intro i hi R hR
  have hln := lostN_len p.blocks i
  simp only [planO, List.cons_append, List.nil_append] at hR ⊢
  repeat' (first | refine GoC.seq ?_ | refine GoC.block ?_ | refine GoC.region rfl ?_ | refine GoC.skip ?_ | refine GoC.exit ?_ | refine GoC.ret ?_ | (refine GoC.cond_d rfl ?_ ?_ <;> intro _ <;> try contradiction) | refine GoOps.nil ?_ | refine GoOps.a rfl ?_ | refine GoOps.p (OpL.idx_s rfl rfl (by with_reducible exact rfl) rfl rfl rfl rfl rfl (by (first | assumption | omega))) ?_ | refine GoOps.p (OpL.add rfl rfl (by (first | assumption | omega))) ?_ | refine GoOps.m (OpL.row rfl) ?_ | refine GoOps.m (OpL.app rfl rfl rfl rfl rfl rfl rfl rfl rfl rfl rfl (by (first | rfl | omega | (simp only [List.length_take, List.length_drop, List.length_map, List.length_append, List.length_cons, List.length_nil] <;> omega))) (by (first | rfl | omega | (simp only [List.length_take, List.length_drop, List.length_map, List.length_append, List.length_cons, List.length_nil] <;> omega))) (by (first | rfl | omega | (simp only [List.length_take, List.length_drop, List.length_map, List.length_append, List.length_cons, List.length_nil] <;> omega)))) ?_ | refine GoOps.p (OpL.ldm rfl rfl (by (first | assumption | omega)) rfl (fun _ => rfl)) ?_)
  · rename_i h1 h2
    refine hR (i + 1) _ (by omega) (by omega) ?_
    rw [lostN_succ, if_pos (by rwa [Nat.zero_add i] at h2)]
    refine AS.sub.mk' _ _ (lk [(1000003, 21)]) rfl rfl ?_ ?_ <;> repeat' (first | exact True.intro | rfl | exact Wk.refl _ | exact Wk.of_eq (congrArg (AV.sl _ _ _ _) (by (first | rfl | omega | (simp only [List.length_take, List.length_drop, List.length_map, List.length_append, List.length_cons, List.length_nil] <;> omega)))) | exact ⟨_, rfl, Elems.mapped (fun _ => rfl) rfl⟩ | exact ⟨_, rfl, Elems.of_eq (by rw [List.map_append]; rfl) (noId_map (fun _ => rfl) _)⟩ | exact ⟨rfl, ents_noId (fun _ => rfl) (fun _ => rfl)⟩ | exact ⟨_, rfl, Elems.ren (Wks.refl _) rfl⟩ | refine And.intro ?_ ?_)
  · rename_i h1 h2
    refine hR (i + 1) _ (by omega) (by omega) ?_
    rw [lostN_succ, if_neg (by rwa [Nat.zero_add i] at h2), List.append_nil]
    (refine AS.sub.mk' _ _ (lk []) rfl rfl ?_ ?_ <;> repeat' (first | exact True.intro | rfl | exact Wk.refl _ | exact ⟨_, rfl, Elems.mapped (fun _ => rfl) rfl⟩ | exact ⟨rfl, ents_noId (fun _ => rfl) (fun _ => rfl)⟩ | exact ⟨_, rfl, Elems.ren (Wks.refl _) rfl⟩ | refine And.intro ?_ ?_))
  · obtain rfl : i = p.blocks.length := by omega
    refine FnPost.by (.inr rfl) (AS.sub.frz [1000003] [(2, .list true 1 (p.lost.map (.int .i64)))] ⟨Fz.mp rfl rfl (fun _ => rfl) (by simp [Plan.lost, lostN]), trivial⟩) (RetOK.hv rfl RetOK.nil) ⟨rfl, fun q hq => ?_⟩
    simp only [List.mem_cons, List.not_mem_nil, or_false] at hq
    rcases hq with rfl | rfl | rfl | rfl <;> rfl

def leftN (l : List (List Int)) (n : Nat) : Int := sumOf (fun x => (x.length : Int)) (l.take n)
theorem left_spec (f : Format) (p : Plan) (hl : p.free.length ≤ 1000) (hb : ∀ l ∈ p.free, l.length ≤ 10000) : Spec env 48 [.ptr 1000040 15 0 0] (ofL .free (planO f p)) (fun r H' => r = .int .i64 p.left ∧ ∀ q ∈ planO f p, H' q.1 = q.2) := by
  have hbn : ∀ n, n ≤ p.free.length → 0 ≤ leftN p.free n ∧ leftN p.free n ≤ n * 10000 := by
    intro n
    induction n with
    | zero => intro _; simp [leftN, sumOf]
    | succ n ih =>
      intro hn
      have h1 := ih (by omega)
      have e : leftN p.free (n + 1) = leftN p.free n + ((p.free.getD n default).length : Int) := by
        unfold leftN
        exact sumOf_take _ (by omega)
      have h2 := hb (p.free.getD n default) (by rw [gd (by omega)]; exact List.getElem_mem _)
      rw [e]; omega
  refine Spec.introR (nt := _) (rs := [_]) Tryz.func48 rfl rfl rfl rfl rfl [1000040, 1000041, 1000042, 1000043] (fun i h => ofL_keys _ i h) fun X hX => ?_
  simp only [planO]
  repeat' (first | refine GoC.seq ?_ | refine GoC.block ?_ | refine GoC.region rfl ?_ | refine GoOps.nil ?_ | refine GoOps.a rfl ?_ | refine GoOps.p (OpL.len_s rfl rfl) ?_)
  refine GoC.loop (G := Nat) (fun i => ⟨ofL .junk [(2, .int .i64 (leftN p.free i)), (8, .sl true 1000042 1 0 p.free.length), (9, .int .i64 p.free.length), (10, .int .i64 i)], ofL .free (planO f p), [1000040, 1000041, 1000042, 1000043]⟩)
    (fun i => i ≤ p.free.length) (fun i => p.free.length - i) 0 (Nat.zero_le _) (by simp only [planO]; (refine AS.sub.mk' _ _ (lk []) rfl rfl ?_ ?_ <;> repeat' (first | exact True.intro | rfl | exact Wk.refl _ | exact ⟨_, rfl, Elems.mapped (fun _ => rfl) rfl⟩ | exact ⟨rfl, ents_noId (fun _ => rfl) (fun _ => rfl)⟩ | exact ⟨_, rfl, Elems.ren (Wks.refl _) rfl⟩ | refine And.intro ?_ ?_))) ?_
  intro i hi R hR
  have h1 := hbn i hi
  have h2 : i < p.free.length → leftN p.free (i + 1) = leftN p.free i + ((p.free.getD i default).length : Int) ∧ (p.free.getD i default).length ≤ 10000 := fun h => by
    refine ⟨?_, hb _ (by rw [gd h]; exact List.getElem_mem _)⟩
    unfold leftN
    exact sumOf_take _ h
  have h3 : i < p.free.length → (p.free.getD (0 + i) default).length ≤ 10000 := fun h => by rw [Nat.zero_add]; exact (h2 h).2
  simp only [planO] at hR ⊢
  repeat' (first | refine GoC.seq ?_ | refine GoC.block ?_ | refine GoC.region rfl ?_ | refine GoC.skip ?_ | refine GoC.exit ?_ | refine GoC.ret ?_ | (refine GoC.cond_d rfl ?_ ?_ <;> intro _ <;> try contradiction) | refine GoOps.nil ?_ | refine GoOps.a rfl ?_ | refine GoOps.p (OpL.len rfl rfl) ?_ | refine GoOps.p (OpL.idx_s rfl rfl (by with_reducible exact rfl) rfl rfl rfl rfl rfl (by (first | assumption | omega))) ?_ | refine GoOps.p (OpL.add rfl rfl (by (first | assumption | omega))) ?_ | refine GoOps.p (OpL.ldm rfl rfl (by (first | assumption | omega)) rfl (fun _ => rfl)) ?_)
  · refine hR (i + 1) _ (by omega) (by omega) ?_
    rw [(h2 (by omega)).1]
    simp only [Nat.zero_add]
    (refine AS.sub.mk' _ _ (lk []) rfl rfl ?_ ?_ <;> repeat' (first | exact True.intro | rfl | exact Wk.refl _ | exact ⟨_, rfl, Elems.mapped (fun _ => rfl) rfl⟩ | exact ⟨rfl, ents_noId (fun _ => rfl) (fun _ => rfl)⟩ | exact ⟨_, rfl, Elems.ren (Wks.refl _) rfl⟩ | refine And.intro ?_ ?_))
  · obtain rfl : i = p.free.length := by omega
    refine FnPost.by (.inr rfl) (AS.sub.refl _) (RetOK.hv rfl RetOK.nil) ⟨by unfold leftN; rw [List.take_length]; rfl, fun q hq => ?_⟩
    simp only [List.mem_cons, List.not_mem_nil, or_false] at hq
    rcases hq with rfl | rfl | rfl | rfl <;> rfl
end Go.Proofs.YtfbjoamdkieamaaGreat.AM
end

section
set_option linter.unusedSimpArgs false
set_option linter.unusedVariables false
set_option maxHeartbeats 8000000
namespace Go.Proofs.YtfbjoamdkieamaaGreat.AM
open Go Go.Proofs

def movesP (f : Format) (s : Int) : Prop := readyP f ∧ f.grown.length ≤ 29 ∧ (0 ≤ s ∧ s ≤ f.disk.count - 1) ∧ ∀ i, i < f.grown.length → (f.grown.getD i default).id < 99 ∧ (f.grown.getD i default).stamp < 9999

theorem count_le' {d : Disk} (hd : d.Good) : 0 ≤ d.count ∧ d.count ≤ 5120 := by
  have h := hd.cnt 4
  rwa [List.take_of_length_le hd.len.2] at h
theorem moves_walk (f : Format) (s : Int) (hworks : PSpec env 7 [] (.bool true)) (m : Format) (n : Nat) (w w' : Int → Int × Int) (hld : Int × Int) (gv : List Int)
    (h : movesP f s →
      PSpec env 13 [f.av, .list false 3 ([(⟨99, 9999, s⟩ : Defect)].map Defect.av)] (.tuple [m.av, .int .i64 0]) ∧ PSpec env 16 [f.av] (.tuple [.int .i64 n, .int .i64 0]) ∧
      PSpec env 17 [f.av, .int .i64 s] (.tuple [.int .i64 hld.1, .int .i64 hld.2]) ∧ (∀ b, PSpec env 9 [f.av, .int .i64 b] (.tuple [.int .i64 (w b).1, .int .i64 (w b).2])) ∧
      (∀ b, PSpec env 9 [m.av, .int .i64 b] (.tuple [.int .i64 (w' b).1, .int .i64 (w' b).2])) ∧ PSpec env 10 [m.av] (.tuple [.list true 1 (gv.map (.int .i64)), .int .i64 0]) ∧
      (hld.2 = 0 ∨ hld.2 = 3) ∧ (n : Int) ≤ f.disk.count ∧ s ∈ gv ∧
      ∀ b : Nat, b < n → (hld.2 = 0 ∧ (b : Int) = hld.1 → (w b).2 = 0 ∧ (w b).1 = s ∧ ¬ ((w' b).2 = 0 ∧ (w' b).1 = s)) ∧ (¬ (hld.2 = 0 ∧ (b : Int) = hld.1) → (w b).1 = (w' b).1 ∧ (w b).2 = (w' b).2)) :
    PSpec env 4 [f.av, .int .i64 s] (.bool true) := by
  have hr := ready_spec f
  by_cases hr0 : readyP f
  · rw [decide_eq_true hr0] at hr
    have hok : f.disk.ok := by
      have h2 := hr0.2
      unfold Format.status at h2
      split at h2
      · assumption
      · omega
    have his := IsSector_spec f.disk hok.good s
    have hcnt := Count_spec f.disk hok.good
    refine Spec.introR (nt := _) (rs := [_]) Tryz.func4 rfl rfl rfl rfl rfl [] (fun _ h => absurd rfl h) fun X hX => ?_
    repeat' (first | refine GoC.seq ?_ | refine GoC.block ?_ | refine GoC.region rfl ?_ | refine GoC.skip ?_ | refine GoC.ret ?_ | refine GoC.cond_t rfl ?_ | (refine GoC.cond_n rfl ?_ ?_ <;> intro _ <;> try contradiction) | refine GoOps.nil ?_ | refine GoOps.a rfl ?_ | refine GoOps.u rfl rfl rfl rfl ?_ | refine GoOps.gs rfl rfl rfl rfl ?_ | refine GoOps.p (OpL.len rfl rfl) ?_ | refine GoOps.m (OpL.boxw (by rfl) rfl rfl rfl rfl) ?_ | refine GoOps.p (OpL.call rfl rfl (hr) rfl rfl) ?_ | refine GoOps.p (OpL.call rfl rfl (his) rfl rfl) ?_ | refine GoOps.p (OpL.call rfl rfl (hworks) rfl rfl) ?_ | (refine GoOps.sd rfl rfl ?_ ?_ <;> intro _ <;> try contradiction))
    · ((try dsimp only [thenA, inBlockA]); refine FnPost.many (.inr rfl) (RetOK.hv rfl RetOK.nil) ?_; (try dsimp only [tup]))
    · ((try dsimp only [thenA, inBlockA]); refine FnPost.many (.inr rfl) (RetOK.hv rfl RetOK.nil) ?_; (try dsimp only [tup]))
    · rename_i k1 k2
      refine GoC.loop (G := Nat) (fun i => ⟨ofL .junk [(1, .int .i64 s), (2, .ptr 2 12 0 0), (5, .int .i64 i)], ofL .free [(2, .arr 30 12 [f.av])], []⟩)
        (fun i => i ≤ f.grown.length ∧ ∀ j, j < i → (f.grown.getD j default).id < 99 ∧ (f.grown.getD j default).stamp < 9999) (fun i => f.grown.length - i) 0 ⟨Nat.zero_le _, fun j h => absurd h (Nat.not_lt_zero j)⟩ (by (refine AS.sub.mk' _ _ (lk []) rfl rfl ?_ ?_ <;> repeat' (first | exact True.intro | rfl | exact Wk.refl _ | exact ⟨_, rfl, Elems.all rfl⟩ | refine And.intro ?_ ?_))) ?_
      rintro i ⟨hi, hj⟩ R hR
      repeat' (first | refine GoC.seq ?_ | refine GoC.block ?_ | refine GoC.region rfl ?_ | refine GoC.skip ?_ | refine GoC.exit ?_ | refine GoC.ret ?_ | refine GoC.cond_t rfl ?_ | (refine GoC.cond_d rfl ?_ ?_ <;> intro _ <;> try contradiction) | refine GoOps.nil ?_ | refine GoOps.a rfl ?_ | refine GoOps.u rfl rfl rfl rfl ?_ | refine GoOps.gs rfl rfl rfl rfl ?_ | refine GoOps.p (OpL.len rfl rfl) ?_ | refine GoOps.p (OpL.idx rfl rfl (by with_reducible exact rfl) rfl rfl rfl rfl (by (first | assumption | omega))) ?_ | refine GoOps.p (OpL.add rfl rfl (by (first | assumption | omega))) ?_ | refine GoOps.p (OpL.build rfl) ?_ | refine GoOps.m (OpL.row rfl) ?_ | refine GoOps.p (OpL.call rfl rfl (hworks) rfl rfl) ?_ | (refine GoOps.sd rfl rfl ?_ ?_ <;> intro _ <;> try contradiction))
      · ((try dsimp only [thenA, inBlockA]); refine FnPost.many (.inr rfl) (RetOK.hv rfl RetOK.nil) ?_; (try dsimp only [tup]))
      · ((try dsimp only [thenA, inBlockA]); refine FnPost.many (.inr rfl) (RetOK.hv rfl RetOK.nil) ?_; (try dsimp only [tup]))
      · rename_i k3 k4 k5
        refine hR (i + 1) _ ⟨by omega, fun j h1 => ?_⟩ (by omega) (by (refine AS.sub.mk' _ _ (lk []) rfl rfl ?_ ?_ <;> repeat' (first | exact True.intro | rfl | exact Wk.refl _ | exact ⟨_, rfl, Elems.all rfl⟩ | refine And.intro ?_ ?_)))
        by_cases c : j < i
        · exact hj j c
        · obtain rfl : j = i := by omega
          omega
      · rename_i k3
        obtain rfl : i = f.grown.length := by omega
        obtain ⟨h1, h2, h3, h4, h5, h6, f1, f2, f3, f4⟩ := h ⟨hr0, by omega, k2, hj⟩
        clear hR h
        refine GoOps.sub (AS.sub.frz [64] [(64, .list false 3 ([(⟨99, 9999, s⟩ : Defect)].map Defect.av))] ⟨Fz.mp (f := Defect.av) rfl rfl (fun _ => rfl) (by (first | rfl | omega | (simp only [List.length_take, List.length_drop, List.length_map, List.length_append, List.length_cons, List.length_nil] <;> omega))), trivial⟩) ?_
        repeat' (first | refine GoC.seq ?_ | refine GoC.block ?_ | refine GoC.region rfl ?_ | refine GoC.skip ?_ | refine GoC.ret ?_ | refine GoC.cond_t rfl ?_ | (refine GoC.cond_d rfl ?_ ?_ <;> intro _ <;> try contradiction) | refine GoOps.nil ?_ | refine GoOps.a rfl ?_ | refine GoOps.u rfl rfl rfl rfl ?_ | refine GoOps.gs rfl rfl rfl rfl ?_ | refine GoOps.b rfl ?_ | refine GoOps.n (OpL.st1 rfl) ?_ | refine GoOps.p (OpL.call rfl rfl (h1) rfl rfl) ?_ | refine GoOps.p (OpL.call rfl rfl (h2) rfl rfl) ?_ | refine GoOps.p (OpL.call rfl rfl (h3) rfl rfl) ?_ | refine GoOps.p (OpL.call rfl rfl (hcnt) rfl rfl) ?_ | (refine GoOps.sd rfl rfl ?_ ?_ <;> intro _ <;> try contradiction))
        any_goals (exfalso; omega)
        all_goals
          refine GoC.loop (G := Nat) (fun b => ⟨ofL .junk [(1, .int .i64 s), (2, .ptr 2 12 0 0), (6, .ptr 6 12 0 0), (8, .int .i64 n), (10, .int .i64 hld.1), (11, .int .i64 hld.2), (12, .int .i64 b)], ofL .free [(2, .arr 30 12 [f.av]), (6, .arr 30 12 [m.av])], []⟩)
            (fun b => b ≤ n) (fun b => n - b) 0 (Nat.zero_le _) (by (refine AS.sub.mk' _ _ (lk []) rfl rfl ?_ ?_ <;> repeat' (first | exact True.intro | rfl | exact Wk.refl _ | exact ⟨_, rfl, Elems.all rfl⟩ | refine And.intro ?_ ?_))) ?_
          intro b hb R hR
          have hn : n ≤ 5120 := by have := (count_le' hok.good).2; omega
          have hFb := f4 b
          have hin := In_spec true gv s
          rw [decide_eq_true f3] at hin
          repeat' (first | refine GoC.seq ?_ | refine GoC.block ?_ | refine GoC.region rfl ?_ | refine GoC.skip ?_ | refine GoC.exit ?_ | refine GoC.ret ?_ | refine GoC.cond_t rfl ?_ | refine GoC.cond_f rfl ?_ | (refine GoC.cond_d rfl ?_ ?_ <;> intro _ <;> try contradiction) | refine GoOps.nil ?_ | refine GoOps.a rfl ?_ | refine GoOps.u rfl rfl rfl rfl ?_ | refine GoOps.gs rfl rfl rfl rfl ?_ | refine GoOps.gj rfl rfl rfl ?_ | refine GoOps.p (OpL.add rfl rfl (by (first | assumption | omega))) ?_ | refine GoOps.p (OpL.call rfl rfl (h4 _) rfl rfl) ?_ | refine GoOps.p (OpL.call rfl rfl (h5 _) rfl rfl) ?_ | refine GoOps.p (OpL.call rfl rfl (h6) rfl rfl) ?_ | refine GoOps.p (OpL.call rfl rfl (hin) rfl rfl) ?_ | refine GoOps.p (OpL.call rfl rfl (hworks) rfl rfl) ?_ | (refine GoOps.sd rfl rfl ?_ ?_ <;> intro _ <;> try contradiction))
          all_goals first | (exfalso; omega) | (refine hR (b + 1) _ (by omega) (by omega) (by (refine AS.sub.mk' _ _ (lk []) rfl rfl ?_ ?_ <;> repeat' (first | exact True.intro | rfl | exact Wk.refl _ | exact ⟨_, rfl, Elems.all rfl⟩ | refine And.intro ?_ ?_)))) | (((try dsimp only [thenA, inBlockA]); refine FnPost.many (.inr rfl) (RetOK.hv rfl RetOK.nil) ?_; (try dsimp only [tup])); done)
  · rw [decide_eq_false hr0] at hr
    refine Spec.introR (nt := _) (rs := [_]) Tryz.func4 rfl rfl rfl rfl rfl [] (fun _ h => absurd rfl h) fun X hX => ?_
    repeat' (first | refine GoC.seq ?_ | refine GoC.region rfl ?_ | refine GoC.ret ?_ | refine GoC.cond_t rfl ?_ | refine GoOps.nil ?_ | refine GoOps.a rfl ?_ | refine GoOps.gs rfl rfl rfl rfl ?_ | refine GoOps.m (OpL.boxw (by rfl) rfl rfl rfl rfl) ?_ | refine GoOps.p (OpL.call rfl rfl (hr) rfl rfl) ?_ | refine GoOps.p (OpL.call rfl rfl (hworks) rfl rfl) ?_)
    ((try dsimp only [thenA, inBlockA]); refine FnPost.many (.inr rfl) (RetOK.hv rfl RetOK.nil) ?_; (try dsimp only [tup]))
end Go.Proofs.YtfbjoamdkieamaaGreat.AM
end
