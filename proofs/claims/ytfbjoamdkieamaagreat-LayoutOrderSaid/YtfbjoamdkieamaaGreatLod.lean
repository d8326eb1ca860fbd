/-
  For every format, cut, turn and block the law LayoutOrder returns true and leaves its arguments as they were: no condition. (part 4 of 4)
-/
import Derived.Test.YtfbjoamdkieamaaGreatLoc
import Derived.Test.YtfbjoamdkieamaaGreatRows
import Derived.WalkKit
import Derived.ProofKit
import Derived.OpenShut
import Derived.Carry
import Derived.Deep.Slices

section
set_option linter.unusedSimpArgs false
set_option linter.unusedVariables false
set_option maxHeartbeats 8000000
namespace Go.Proofs.YtfbjoamdkieamaaGreat.AM
open Go Go.Proofs Go.Sort

theorem NilT.plan {f : Format} : NilT 1000041 (.agg [.int .i64 f.disk.heads, .int .i64 f.disk.turn, .list false 2 (f.disk.zones.map Zone.av), .int .i64 f.disk.headSkew, .int .i64 f.disk.cylSkew, .int .i64 f.disk.hs.low, .int .i64 f.disk.hs.high, .int .i64 f.disk.cs.low, .int .i64 f.disk.cs.high,
  .int .i64 f.spares, .list false 1 (f.primary.map (.int .i64)), .list false 3 (f.grown.map Defect.av), .list true 0 [], .list true 0 [], .omap 22])
  (.agg [.int .i64 f.disk.heads, .int .i64 f.disk.turn, .list false 2 (f.disk.zones.map Zone.av), .int .i64 f.disk.headSkew, .int .i64 f.disk.cylSkew, .int .i64 f.disk.hs.low, .int .i64 f.disk.hs.high, .int .i64 f.disk.cs.low, .int .i64 f.disk.cs.high,
  .int .i64 f.spares, .list false 1 (f.primary.map (.int .i64)), .list false 3 (f.grown.map Defect.av), .sl true 1000041 1 0 0, .list true 0 [], .omap 22]) :=
  .agg (.cons (.same _ _) (.cons (.same _ _) (.cons (.same _ _) (.cons (.same _ _) (.cons (.same _ _) (.cons (.same _ _) (.cons (.same _ _) (.cons (.same _ _) (.cons (.same _ _) (.cons (.same _ _) (.cons (.same _ _) (.cons (.same _ _) (.cons (.nil _ _ _) (.same _ _))))))))))))))
theorem NilT.plan2 {f : Format} : NilT 1000042 (.agg [.int .i64 f.disk.heads, .int .i64 f.disk.turn, .list false 2 (f.disk.zones.map Zone.av), .int .i64 f.disk.headSkew, .int .i64 f.disk.cylSkew, .int .i64 f.disk.hs.low, .int .i64 f.disk.hs.high, .int .i64 f.disk.cs.low, .int .i64 f.disk.cs.high,
  .int .i64 f.spares, .list false 1 (f.primary.map (.int .i64)), .list false 3 (f.grown.map Defect.av), .sl true 1000041 1 0 0, .list true 0 [], .omap 22])
  (.agg [.int .i64 f.disk.heads, .int .i64 f.disk.turn, .list false 2 (f.disk.zones.map Zone.av), .int .i64 f.disk.headSkew, .int .i64 f.disk.cylSkew, .int .i64 f.disk.hs.low, .int .i64 f.disk.hs.high, .int .i64 f.disk.cs.low, .int .i64 f.disk.cs.high,
  .int .i64 f.spares, .list false 1 (f.primary.map (.int .i64)), .list false 3 (f.grown.map Defect.av), .sl true 1000041 1 0 0, .sl true 1000042 1 0 0, .omap 22]) :=
  .agg (.cons (.same _ _) (.cons (.same _ _) (.cons (.same _ _) (.cons (.same _ _) (.cons (.same _ _) (.cons (.same _ _) (.cons (.same _ _) (.cons (.same _ _) (.cons (.same _ _) (.cons (.same _ _) (.cons (.same _ _) (.cons (.same _ _) (.cons (.same _ _) (.cons (.nil _ _ _) (.same _ _)))))))))))))))

theorem GoC.name {E : Env} {X : Ctx} {nt : Nat} {c : Code} {Q : Exit → AS → Prop} {s : AS} (h : ∀ Q', Q' = Q → GoC E X nt c Q' s) : GoC E X nt c Q s := h Q rfl

theorem lay_spec (f : Format) (h1 : f.check = 0) (hd : f.disk.Good) (hsp : 0 ≤ f.spares ∧ f.spares ≤ 20) (hpr : f.primary.length ≤ 60) (hgl : f.grown.length ≤ 30) (hv : inVD f.grown) (hl19 : (lDone f.grown).length ≤ 19) :
    Spec env 32 [f.av] (ofL .free []) (fun r H' => r = .tuple [.ptr 1000040 15 0 0, .int .i64 0] ∧ ∀ q ∈ planO f (layP f), H' q.1 = q.2) := by
  have hs1 : PSpec env 36 [f.av] (.int .i64 0) := by rw [← h1]; exact lCheck_spec f
  refine Spec.introR (nt := _) (rs := [_, _]) Tryz.func32 rfl rfl rfl rfl rfl [] (fun i h => ofL_keys _ i h) fun X hX => ?_
  repeat' (first | refine GoC.seq ?_ | refine GoC.block ?_ | refine GoC.region rfl ?_ | refine GoC.skip ?_ | refine GoC.cond_f rfl ?_ | refine GoOps.nil ?_ | refine GoOps.a rfl ?_ | refine GoOps.p (OpL.len rfl rfl) ?_ | refine GoOps.p (OpL.build rfl) ?_ | refine GoOps.m (OpL.boxw (by rfl) rfl rfl rfl rfl) ?_ | refine GoOps.m (OpL.makeMap rfl) ?_ | refine GoOps.p (OpL.call rfl rfl (hs1) rfl rfl) ?_)
  refine GoC.sub (AS.sub.nilcell 24 1000041 3 1 _ rfl rfl NilT.plan) (GoC.sub (AS.sub.nilcell 24 1000042 27 1 _ rfl rfl NilT.plan2) ?_)
  refine GoC.loop (G := Nat) (fun i => ⟨ofL .junk [(1, .ptr 1 12 0 0), (5, .ptr 1000040 15 0 0), (26, .list false 1 (f.primary.map (.int .i64))), (27, .int .i64 f.primary.length), (28, .int .i64 i)],
      ofL .free ((1, .arr 30 12 [f.av]) :: planO f ⟨[], [], tally (f.primary.take i)⟩), []⟩)
    (fun i => i ≤ f.primary.length) (fun i => f.primary.length - i) 0 (Nat.zero_le _) (by refine AS.sub.mk' _ _ (lk [(1000040, 24), (1000043, 22)]) rfl rfl ?_ ?_ <;> simp only [planO] <;> repeat' (first | exact True.intro | rfl | exact Wk.refl _ | exact ⟨_, rfl, Elems.all rfl⟩ | exact ⟨rfl, ents_noId (fun _ => rfl) (fun _ => rfl)⟩ | exact ⟨_, rfl, Elems.ren (Wks.refl _) rfl⟩ | refine And.intro ?_ ?_)) ?_
  intro i hi R hR
  simp only [planO] at hR ⊢
  have hb := tally_b (f.primary.take i) (f.primary.getD i default)
  have hlt : (f.primary.take i).length ≤ 60 := by simp; omega
  repeat' (first | refine GoC.seq ?_ | refine GoC.block ?_ | refine GoC.region rfl ?_ | refine GoC.skip ?_ | refine GoC.exit ?_ | (refine GoC.cond_d rfl ?_ ?_ <;> intro _ <;> try contradiction) | refine GoOps.nil ?_ | refine GoOps.a rfl ?_ | refine GoOps.p (OpL.idx rfl rfl (by with_reducible exact rfl) rfl rfl rfl rfl (by (first | assumption | omega))) ?_ | refine GoOps.p (OpL.add rfl rfl (by (first | assumption | omega))) ?_ | refine GoOps.p (OpL.lookup rfl rfl rfl rfl (by first | exact int_keyT | exact Defect.keyT) rfl rfl rfl) ?_ | refine GoOps.n (OpL.mapUpdate rfl rfl rfl rfl rfl (by first | exact int_keyT | exact Defect.keyT)) ?_)
  · refine hR (i + 1) _ (by omega) (by omega) ?_
    rw [tally_succ (by omega)]
    (refine AS.sub.mk' _ _ (lk []) rfl rfl ?_ ?_ <;> repeat' (first | exact True.intro | rfl | exact Wk.refl _ | exact ⟨_, rfl, Elems.all rfl⟩ | exact ⟨rfl, ents_noId (fun _ => rfl) (fun _ => rfl)⟩ | exact ⟨_, rfl, Elems.ren (Wks.refl _) rfl⟩ | refine And.intro ?_ ?_))
  · obtain rfl : i = f.primary.length := by omega
    rw [List.take_length]
    clear hR hb hlt
    have hz := pzones_spec f ⟨[], [], tally f.primary⟩ hd
    simp only [planO] at hz
    refine GoOps.m (OpL.callO (lk []) rfl rfl hz rfl rfl ⟨⟨_, rfl, Elems.ren (Wks.refl _) rfl⟩, ⟨_, rfl, Elems.mapped (α := Int) (f := AV.int .i64) (xs := []) (fun _ => rfl) rfl⟩, ⟨_, rfl, Elems.mapped (α := List Int) (f := intsL) (xs := []) (fun _ => rfl) rfl⟩, ⟨rfl, ents_noId (fun _ => rfl) (fun _ => rfl)⟩, trivial⟩ (by rfl) (by rfl)
      (post := [(1000040, _), (1000041, _), (1000042, _), (1000043, _)])
      (by exact ⟨⟨rfl, ⟨_, rfl, OutE.ren rfl⟩, .inl rfl⟩, ⟨rfl, ⟨_, rfl, OutE.mapped (f := AV.int .i64) fun _ => rfl⟩, .inl rfl⟩, ⟨rfl, ⟨_, rfl, OutE.mapped (f := intsL) fun _ => rfl⟩, .inl rfl⟩, ⟨rfl, ⟨rfl, ents_noId (fun _ => rfl) (fun _ => rfl)⟩, .inl rfl⟩, trivial⟩) (by rfl) (by rfl)) ?_
    repeat' (first | refine GoC.block ?_ | refine GoOps.nil ?_ | refine GoOps.a rfl ?_ | refine GoOps.p (OpL.len rfl rfl) ?_)
    have hzl : f.disk.zr.length = f.disk.zones.length := zrs_len _ _
    have hlen := hd.len
    refine GoC.loop (G := Nat) (fun i => ⟨ofL .junk [(1, .ptr 1 12 0 0), (5, .ptr 1000040 15 0 0), (41, .list true 2 (f.disk.zr.map Zr.av)), (42, .int .i64 f.disk.zr.length), (43, .int .i64 i)],
        ofL .free ((1, .arr 30 12 [f.av]) :: planO f ⟨(layN f i).1, (layN f i).2, tally f.primary⟩), []⟩)
      (fun i => i ≤ f.disk.zr.length) (fun i => f.disk.zr.length - i) 0 (Nat.zero_le _) (by simp only [planO]; (refine AS.sub.mk' _ _ (lk []) rfl rfl ?_ ?_ <;> repeat' (first | exact True.intro | rfl | exact Wk.refl _ | exact ⟨_, rfl, Elems.all rfl⟩ | exact ⟨rfl, ents_noId (fun _ => rfl) (fun _ => rfl)⟩ | exact ⟨_, rfl, Elems.ren (Wks.refl _) rfl⟩ | refine And.intro ?_ ?_))) ?_
    intro i hi R hR
    obtain ⟨hn1, hn2, hn3⟩ := layN_props hd i hi
    have hzb := zat_b hd i
    have hzb1 := zat_b hd (i + 1)
    have hzm := zat_mono hd i
    generalize hL : layN f i = L at *
    obtain ⟨bl, fr⟩ := L
    dsimp only at hn1 hn2 hn3
    simp only [planO] at hR ⊢
    repeat' (first | refine GoC.seq ?_ | refine GoC.block ?_ | refine GoC.region rfl ?_ | refine GoC.skip ?_ | refine GoC.exit ?_ | (refine GoC.cond_d rfl ?_ ?_ <;> intro _ <;> try contradiction) | refine GoOps.nil ?_ | refine GoOps.a rfl ?_ | refine GoOps.b rfl ?_ | refine GoOps.p (OpL.idx rfl rfl (by with_reducible exact rfl) rfl rfl rfl rfl (by (first | assumption | omega))) ?_ | refine GoOps.m (OpL.row rfl) ?_ | refine GoOps.n (OpL.st1 rfl) ?_)
    · have hi2 : i < f.disk.zr.length := by omega
      have hg : f.disk.zr.getD i default = ⟨zat f.disk i, zat f.disk (i + 1)⟩ := zrs_get (by omega)
      rw [hg]
      refine GoC.name fun Q4 hQ4 => ?_
      refine GoC.loop (G := Nat) (fun k => ⟨ofL .junk [(1, .ptr 1 12 0 0), (5, .ptr 1000040 15 0 0), (9, .ptr 9 2 0 0), (10, .sl true 1000003 1 0 (goodN (tally f.primary) (zat f.disk i) k).length), (11, .int .i64 (zat f.disk i + (k : Int))), (41, .list true 2 (f.disk.zr.map Zr.av)), (42, .int .i64 f.disk.zr.length), (43, .int .i64 i)],
          ofL .free ((1000003, .arr 3 1 ((goodN (tally f.primary) (zat f.disk i) k).map (.int .i64))) :: (9, .arr 90 2 [Zr.av ⟨zat f.disk i, zat f.disk (i + 1)⟩]) :: (1, .arr 30 12 [f.av]) :: planO f ⟨bl, fr, tally f.primary⟩), []⟩)
        (fun k => k ≤ (zat f.disk (i + 1) - zat f.disk i).toNat) (fun k => (zat f.disk (i + 1) - zat f.disk i).toNat - k) 0 (Nat.zero_le _) ((AS.sub.nilrow 10 1000003 3 1 rfl rfl).trans (by simp only [planO]; (refine AS.sub.mk' _ _ (lk []) rfl rfl ?_ ?_ <;> repeat' (first | exact True.intro | rfl | exact Wk.refl _ | exact Wk.of_eq (congrArg (AV.int .i64) (by omega)) | exact ⟨_, rfl, Elems.all rfl⟩ | exact ⟨_, rfl, Elems.mapped (fun _ => rfl) rfl⟩ | exact ⟨rfl, ents_noId (fun _ => rfl) (fun _ => rfl)⟩ | exact ⟨_, rfl, Elems.ren (Wks.refl _) rfl⟩ | refine And.intro ?_ ?_)))) ?_
      intro k hk R2 hR2
      have hgl := goodN_len (tally f.primary) (zat f.disk i) k
      simp only [planO] at hR2 ⊢
      repeat' (first | refine GoC.seq ?_ | refine GoC.block ?_ | refine GoC.region rfl ?_ | refine GoC.skip ?_ | refine GoC.exit ?_ | (refine GoC.cond_d rfl ?_ ?_ <;> intro _ <;> try contradiction) | refine GoOps.nil ?_ | refine GoOps.a rfl ?_ | refine GoOps.p (OpL.add rfl rfl (by (first | assumption | omega))) ?_ | refine GoOps.m (OpL.row rfl) ?_ | refine GoOps.m (OpL.app rfl rfl rfl rfl rfl rfl rfl rfl rfl rfl rfl (by (first | rfl | omega | (simp only [List.length_take, List.length_drop, List.length_map, List.length_append, List.length_cons, List.length_nil] <;> omega))) (by (first | rfl | omega | (simp only [List.length_take, List.length_drop, List.length_map, List.length_append, List.length_cons, List.length_nil] <;> omega))) (by (first | rfl | omega | (simp only [List.length_take, List.length_drop, List.length_map, List.length_append, List.length_cons, List.length_nil] <;> omega)))) ?_ | refine GoOps.p (OpL.lookup rfl rfl rfl rfl (by first | exact int_keyT | exact Defect.keyT) rfl rfl rfl) ?_)
      · rename_i hk2 hq
        dsimp only at hk2
        refine hR2 (k + 1) _ (by omega) (by omega) ?_
        rw [goodN_succ, if_pos hq]
        refine AS.sub.mk' _ _ (lk [(1000003, 65)]) rfl rfl ?_ ?_ <;> repeat' (first | exact True.intro | rfl | exact Wk.refl _ | exact Wk.of_eq (congrArg (AV.int .i64) (by omega)) | exact Wk.of_eq (congrArg (AV.sl _ _ _ _) (by (first | rfl | omega | (simp only [List.length_take, List.length_drop, List.length_map, List.length_append, List.length_cons, List.length_nil] <;> omega)))) | exact ⟨_, rfl, Elems.all rfl⟩ | exact ⟨_, rfl, Elems.mapped (fun _ => rfl) rfl⟩ | exact ⟨_, rfl, Elems.of_eq (by rw [List.map_append]; rfl) (noId_map (fun _ => rfl) _)⟩ | exact ⟨rfl, ents_noId (fun _ => rfl) (fun _ => rfl)⟩ | exact ⟨_, rfl, Elems.ren (Wks.refl _) rfl⟩ | refine And.intro ?_ ?_)
      · rename_i hk2 hq
        dsimp only at hk2
        refine hR2 (k + 1) _ (by omega) (by omega) ?_
        rw [goodN_succ, if_neg hq, List.append_nil]
        (refine AS.sub.mk' _ _ (lk []) rfl rfl ?_ ?_ <;> repeat' (first | exact True.intro | rfl | exact Wk.refl _ | exact Wk.of_eq (congrArg (AV.int .i64) (by omega)) | exact ⟨_, rfl, Elems.all rfl⟩ | exact ⟨_, rfl, Elems.mapped (fun _ => rfl) rfl⟩ | exact ⟨rfl, ents_noId (fun _ => rfl) (fun _ => rfl)⟩ | exact ⟨_, rfl, Elems.ren (Wks.refl _) rfl⟩ | refine And.intro ?_ ?_))
      · rename_i hk2
        dsimp only at hk2
        obtain rfl : k = (zat f.disk (i + 1) - zat f.disk i).toNat := by omega
        have hgz : goodN (tally f.primary) (zat f.disk i) (zat f.disk (i + 1) - zat f.disk i).toNat = goodZ f (f.disk.zr.getD i default) := by rw [hg]; rfl
        rw [hgz] at hgl ⊢
        have hnx : layN f (i + 1) = (bl ++ (goodZ f (f.disk.zr.getD i default)).take (cutOf f (goodZ f (f.disk.zr.getD i default))), fr ++ [(goodZ f (f.disk.zr.getD i default)).drop (cutOf f (goodZ f (f.disk.zr.getD i default)))]) := by
          rw [layN_succ f hi2, hL]; rfl
        generalize goodZ f (f.disk.zr.getD i default) = good at *
        have hcut : cutOf f good = (max 0 ((good.length : Int) - f.spares)).toNat := rfl
        generalize hcm : max 0 ((good.length : Int) - f.spares) = cut at hcut
        rw [hQ4]
        simp only [inBlockA, thenA, beq_self_eq_true, cond_true]
        apply GoC.sub
        · exact AS.sub.frz [1000003] [(10, .list true 1 (good.map (.int .i64)))] ⟨Fz.mp rfl rfl (fun _ => rfl) (by simp), trivial⟩
        have hcb : 0 ≤ cut ∧ cut ≤ good.length := by omega
        repeat' (first | refine GoC.seq ?_ | refine GoC.region rfl ?_ | refine GoC.draw env_mixed ?_ | refine GoOps.nil ?_ | refine GoD.done rfl rfl (by kernel_rfl) ?_ | refine GoOps.a rfl ?_ | refine GoD.a rfl ?_ | refine GoOps.p (OpL.len rfl rfl) ?_ | refine GoOps.p (OpL.add rfl rfl (by (first | assumption | omega))) ?_ | refine GoOps.p (OpL.sub rfl rfl (by (first | assumption | omega))) ?_ | refine GoD.p (OpL.sto rfl rfl rfl rfl rfl (by (first | assumption | omega))) ?_ | refine GoD.p (OpL.sfr rfl rfl rfl rfl rfl (by (first | assumption | omega))) ?_ | refine GoD.m (OpL.row rfl) ?_ | refine GoD.m (OpL.app rfl rfl rfl rfl rfl rfl rfl rfl rfl rfl rfl (by (first | rfl | omega | (simp only [List.length_take, List.length_drop, List.length_map, List.length_append, List.length_cons, List.length_nil] <;> omega))) (by (first | rfl | omega | (simp only [List.length_take, List.length_drop, List.length_map, List.length_append, List.length_cons, List.length_nil] <;> omega))) (by (first | rfl | omega | (simp only [List.length_take, List.length_drop, List.length_map, List.length_append, List.length_cons, List.length_nil] <;> omega)))) ?_ | refine GoD.m (OpL.appl rfl rfl rfl rfl rfl rfl rfl rfl rfl (fun _ => rfl) (by (first | rfl | omega | (simp only [List.length_take, List.length_drop, List.length_map, List.length_append, List.length_cons, List.length_nil] <;> omega))) (by (first | rfl | omega | (simp only [List.length_take, List.length_drop, List.length_map, List.length_append, List.length_cons, List.length_nil] <;> omega)))) ?_ | refine GoD.n (OpL.st1 rfl) ?_ | refine GoOps.p (OpL.max2 rfl rfl) ?_)
        rw [hcut] at hnx
        rw [hcm]
        refine hR (i + 1) _ (by omega) (by omega) ?_
        rw [hnx]
        have e1 : (bl ++ good.take cut.toNat).length = (bl.map (AV.int .i64)).length + ((good.take cut.toNat).map (AV.int .i64)).length := by simp
        have e2 : (fr ++ [good.drop cut.toNat]).length = (fr.map intsL).length + 1 := by simp
        dsimp only
        rw [e1, e2]
        refine AS.sub.mk' _ _ (lk [(1000041, 80), (1000042, 92)]) rfl rfl ?_ ?_ <;> repeat' (first | exact True.intro | rfl | exact Wk.refl _ | exact ⟨_, rfl, Elems.all rfl⟩ | exact ⟨_, rfl, Elems.of_eq (by rw [List.map_append]; rfl) (noId_map (fun _ => rfl) _)⟩ | exact ⟨_, rfl, Elems.of_eq List.map_append.symm (noId_map (fun _ => rfl) _)⟩ | exact ⟨rfl, ents_noId (fun _ => rfl) (fun _ => rfl)⟩ | exact ⟨_, rfl, Elems.ren (Wks.refl _) rfl⟩ | refine And.intro ?_ ?_)
    · obtain rfl : i = f.disk.zr.length := by omega
      clear hR hn1 hn2 hn3 hzb hzb1 hzm
      have hpl : planO f (plan0 f) = planO f ⟨bl, fr, tally f.primary⟩ := by rw [plan0, hL]
      have hgood := plan0_good (f := f) hd
      refine GoOps.sub (AS.sub.frz [98] [(98, .list false 1 ([f.grown].map defs))] ⟨Fz.mp (f := defs) rfl rfl (fun _ => rfl) (by (first | rfl | omega | (simp only [List.length_take, List.length_drop, List.length_map, List.length_append, List.length_cons, List.length_nil] <;> omega))), trivial⟩) ?_
      have hc : [f.grown].flatten = f.grown := by simp
      have hcol := collect_spec [f.grown] (by simp) (by simp; omega)
      rw [hc] at hcol
      refine GoOps.m (OpL.callO (lk [(6, 1000005), (7, 1000006)]) rfl rfl hcol rfl rfl trivial (by rfl) (by rfl)
        (post := [(1000005, _), (1000006, _)])
        (by exact ⟨⟨rfl, ⟨rfl, ents_noId (fun _ => rfl) (fun _ => rfl)⟩, .inr rfl⟩, ⟨rfl, ⟨rfl, ents_noId (fun _ => rfl) (fun _ => rfl)⟩, .inr rfl⟩, trivial⟩) (by rfl) (by rfl)) ?_
      refine GoOps.m (OpL.callO (lk []) rfl rfl (sortedO_spec (l := f.grown) (by omega) hv) rfl rfl (by exact ⟨⟨rfl, ents_noId (fun _ => rfl) (fun _ => rfl)⟩, ⟨rfl, ents_noId (fun _ => rfl) (fun _ => rfl)⟩, trivial⟩) (by rfl) (by rfl)
        (post := [(1000005, _), (1000006, _), (1000014, _)])
        (by exact ⟨⟨rfl, ⟨rfl, ents_noId (fun _ => rfl) (fun _ => rfl)⟩, .inl rfl⟩, ⟨rfl, ⟨rfl, ents_noId (fun _ => rfl) (fun _ => rfl)⟩, .inl rfl⟩, ⟨rfl, ⟨_, rfl, OutE.mapped fun _ => rfl⟩, .inr rfl⟩, trivial⟩) (by rfl) (by rfl)) ?_
      repeat' (first | refine GoC.seq ?_ | refine GoC.region rfl ?_ | refine GoOps.nil ?_ | refine GoOps.a rfl ?_)
      have hvl : inVD (lDone f.grown) := fun d h => hv d (lDone_mem hv h)
      refine GoOps.m (OpL.callO (lk [(1000003, 1000014)]) rfl rfl (SortStable_spec true (lDone f.grown) hl19 hvl) rfl rfl (by exact ⟨⟨_, rfl, Elems.mapped (fun _ => rfl) rfl⟩, trivial⟩) (by rfl) (by rfl)
        (post := [(1000014, HO.arr 36 3 ((insSt (lDone f.grown)).map Defect.av))])
        (by exact ⟨⟨rfl, ⟨_, rfl, OutE.mapped fun _ => rfl⟩, .inl rfl⟩, trivial⟩) (by rfl) (by rfl)) ?_
      have hml : (msgs f).length = (lDone f.grown).length := insSt_len _
      rw [← hml]
      repeat' (first | refine GoC.seq ?_ | refine GoC.block ?_ | refine GoC.region rfl ?_ | refine GoOps.nil ?_ | refine GoOps.a rfl ?_ | refine GoOps.p (OpL.len_s rfl rfl) ?_)
      apply GoC.sub
      · exact AS.sub.frz [1000014] [(103, .list true 3 ((msgs f).map Defect.av))] ⟨Fz.mp rfl rfl (fun _ => rfl) (by simp [msgs]), trivial⟩
      have hml2 : (msgs f).length ≤ 19 := by omega
      refine GoC.loop (G := Nat) (fun j => ⟨ofL .junk [(5, .ptr 1000040 15 0 0), (103, .list true 3 ((msgs f).map Defect.av)), (104, .int .i64 (msgs f).length), (105, .int .i64 j)],
          ofL .free (planO f (growL f (plan0 f) ((msgs f).take j))), []⟩)
        (fun j => j ≤ (msgs f).length) (fun j => (msgs f).length - j) 0 (Nat.zero_le _) (by
          rw [List.take_zero, show growL f (plan0 f) [] = plan0 f from rfl, hpl]
          simp only [planO]
          (refine AS.sub.mk' _ _ (lk []) rfl rfl ?_ ?_ <;> repeat' (first | exact True.intro | rfl | exact Wk.refl _ | exact ⟨_, rfl, Elems.mapped (fun _ => rfl) rfl⟩ | exact ⟨rfl, ents_noId (fun _ => rfl) (fun _ => rfl)⟩ | exact ⟨_, rfl, Elems.ren (Wks.refl _) rfl⟩ | refine And.intro ?_ ?_))) ?_
      intro j hj R2 hR2
      have hgj := growL_good hgood (msgs f) j hj
      have hgs : j < (msgs f).length → growL f (plan0 f) ((msgs f).take (j + 1)) = (growL f (plan0 f) ((msgs f).take j)).grow f.disk ((msgs f).getD j default).sector := fun h => growL_succ f (plan0 f) h
      generalize hgp : growL f (plan0 f) ((msgs f).take j) = p at *
      have hgrow := grow_spec f p ((msgs f).getD j default).sector hd (hgj.good (by omega))
      simp only [planO] at hR2 hgrow ⊢
      repeat' (first | refine GoC.seq ?_ | refine GoC.block ?_ | refine GoC.region rfl ?_ | refine GoC.skip ?_ | refine GoC.exit ?_ | refine GoC.ret ?_ | (refine GoC.cond_d rfl ?_ ?_ <;> intro _ <;> try contradiction) | refine GoOps.nil ?_ | refine GoOps.a rfl ?_ | refine GoOps.b rfl ?_ | refine GoOps.p (OpL.idx rfl rfl (by with_reducible exact rfl) rfl rfl rfl rfl (by (first | assumption | omega))) ?_ | refine GoOps.n (OpL.st1 rfl) ?_)
      · refine GoOps.m (OpL.callO (lk []) rfl rfl hgrow rfl rfl ⟨⟨_, rfl, Elems.ren (Wks.refl _) rfl⟩, ⟨_, rfl, Elems.mapped (fun _ => rfl) rfl⟩, ⟨_, rfl, Elems.mapped (fun _ => rfl) rfl⟩, ⟨rfl, ents_noId (fun _ => rfl) (fun _ => rfl)⟩, trivial⟩ (by rfl) (by rfl)
          (post := [(1000040, _), (1000041, _), (1000042, _), (1000043, _)])
          (by exact ⟨⟨rfl, ⟨_, rfl, OutE.ren rfl⟩, .inl rfl⟩, ⟨rfl, ⟨_, rfl, OutE.mapped fun _ => rfl⟩, .inl rfl⟩, ⟨rfl, ⟨_, rfl, OutE.mapped fun _ => rfl⟩, .inl rfl⟩, ⟨rfl, ⟨rfl, ents_noId (fun _ => rfl) (fun _ => rfl)⟩, .inl rfl⟩, trivial⟩) (by rfl) (by rfl)) ?_
        repeat' (first | refine GoC.region rfl ?_ | refine GoOps.nil ?_ | refine GoOps.a rfl ?_ | refine GoOps.p (OpL.add rfl rfl (by (first | assumption | omega))) ?_)
        refine hR2 (j + 1) _ (by omega) (by omega) ?_
        rw [hgs (by omega)]
        (refine AS.sub.mk' _ _ (lk []) rfl rfl ?_ ?_ <;> repeat' (first | exact True.intro | rfl | exact Wk.refl _ | exact ⟨_, rfl, Elems.mapped (fun _ => rfl) rfl⟩ | exact ⟨rfl, ents_noId (fun _ => rfl) (fun _ => rfl)⟩ | exact ⟨_, rfl, Elems.ren (Wks.refl _) rfl⟩ | refine And.intro ?_ ?_))
      · obtain rfl : j = (msgs f).length := by omega
        rw [List.take_length] at hgp
        have hlp : layP f = p := hgp
        rw [hlp]
        refine FnPost.by (.inr rfl) (AS.sub.refl _) (RetOK.hv rfl (RetOK.hv rfl RetOK.nil)) ⟨rfl, fun q hq => ?_⟩
        simp only [List.mem_cons, List.not_mem_nil, or_false] at hq
        rcases hq with rfl | rfl | rfl | rfl <;> rfl
end Go.Proofs.YtfbjoamdkieamaaGreat.AM
end

section
set_option linter.unusedSimpArgs false
set_option linter.unusedVariables false
set_option maxHeartbeats 8000000
namespace Go.Proofs.YtfbjoamdkieamaaGreat.AM
open Go Go.Proofs Go.Sort

def planD : List (Nat × HO) := [(1000040, .dead), (1000041, .dead), (1000042, .dead), (1000043, .dead)]
/-- The plan is not asked again. -/
theorem AS.sub.drop {s : AS} {t : Tmp} {x : AV} (ht : s.t t = x) (hx : x.noId = true) (hr : ∀ ρ, x.ren ρ = x) (hi : ∀ S, x.idsIn S = true) (hk : keptOK s.k (lk []) (planD.map (·.1)) = true) : s.sub ⟨ofL .junk [(t, x)], ofL .free planD, s.k⟩ :=
  AS.sub.mk' _ _ (lk []) rfl hk ⟨⟨by rw [ht, hr]; exact Wk.refl _, hi _⟩, trivial⟩ trivial

def Plan.lost (p : Plan) : List Int := ((List.range p.blocks.length).filter fun i => decide (p.blocks.getD i default = -1)).map fun (i : Nat) => (i : Int)
def Plan.spares (p : Plan) : List Int := p.free.map fun l => (l.length : Int)
def Plan.secs (p : Plan) : List Int := (p.given.map (·.1)).mergeSort fun x y => decide (x ≤ y)
def Plan.left (p : Plan) : Int := sumOf (fun l => (l.length : Int)) p.free

theorem blocks_spec (f : Format) (p : Plan) : Spec env 42 [.ptr 1000040 15 0 0] (ofL .free (planO f p)) (fun r H' => r = .list true 1 (p.blocks.map (.int .i64)) ∧ ∀ q ∈ planD, H' q.1 = q.2) := by
  refine Spec.introR (nt := _) (rs := [_]) Tryz.func42 rfl rfl rfl rfl rfl [1000040, 1000041, 1000042, 1000043] (fun i h => ofL_keys _ i h) fun X hX => ?_
  simp only [planO]
  repeat' (first | refine GoC.seq ?_ | refine GoC.region rfl ?_ | refine GoC.ret ?_ | refine GoOps.nil ?_ | refine GoOps.a rfl ?_)
  refine FnPost.by (.inr rfl) ((AS.sub.frz [1000041] [(2, .list true 1 (p.blocks.map (.int .i64)))] ⟨Fz.mp rfl rfl (fun _ => rfl) (by simp), trivial⟩).trans (AS.sub.drop (t := 2) rfl rfl (fun _ => rfl) (fun _ => rfl) rfl)) (RetOK.hv rfl RetOK.nil) ⟨rfl, fun q hq => ?_⟩
  simp only [planD, List.mem_cons, List.not_mem_nil, or_false] at hq
  rcases hq with rfl | rfl | rfl | rfl <;> rfl

theorem spares_spec (f : Format) (p : Plan) (hl : p.free.length ≤ 10000) : Spec env 35 [.ptr 1000040 15 0 0] (ofL .free (planO f p)) (fun r H' => r = .list true 1 (p.spares.map (.int .i64)) ∧ ∀ q ∈ planD, H' q.1 = q.2) := by
  refine Spec.introR (nt := _) (rs := [_]) Tryz.func35 rfl rfl rfl rfl rfl [1000040, 1000041, 1000042, 1000043] (fun i h => ofL_keys _ i h) fun X hX => ?_
  simp only [planO]
  repeat' (first | refine GoC.seq ?_ | refine GoC.block ?_ | refine GoC.region rfl ?_ | refine GoOps.nil ?_ | refine GoOps.a rfl ?_ | refine GoOps.p (OpL.len_s rfl rfl) ?_)
  refine GoC.loop (G := Nat) (fun i => ⟨ofL .junk [(3, .sl true 1000003 1 0 i), (9, .sl true 1000042 1 0 p.free.length), (10, .int .i64 p.free.length), (11, .int .i64 i)],
      ofL .free (planO f p ++ [(1000003, .arr 3 1 (((p.free.take i).map fun l => (l.length : Int)).map (.int .i64)))]), [1000040, 1000041, 1000042, 1000043]⟩)
    (fun i => i ≤ p.free.length) (fun i => p.free.length - i) 0 (Nat.zero_le _) ((AS.sub.nilrow 3 1000003 3 1 rfl rfl).trans (by simp only [planO, List.cons_append, List.nil_append]; (refine AS.sub.mk' _ _ (lk []) rfl rfl ?_ ?_ <;> repeat' (first | exact True.intro | rfl | exact Wk.refl _ | exact ⟨_, rfl, Elems.all rfl⟩ | exact ⟨_, rfl, Elems.mapped (fun _ => rfl) rfl⟩ | exact ⟨rfl, ents_noId (fun _ => rfl) (fun _ => rfl)⟩ | exact ⟨_, rfl, Elems.ren (Wks.refl _) rfl⟩ | refine And.intro ?_ ?_)))) ?_
  intro i hi R hR
  have hlt : ((p.free.take i).map fun l => (l.length : Int)).length = i := by simp; omega
  have hsu : i < p.free.length → (p.free.take (i + 1)).map (fun l => (l.length : Int)) = (p.free.take i).map (fun l => (l.length : Int)) ++ [((p.free.getD i default).length : Int)] := fun h => by rw [take_snoc h, List.map_append]; rfl
  simp only [planO, List.cons_append, List.nil_append] at hR ⊢
  repeat' (first | refine GoC.seq ?_ | refine GoC.block ?_ | refine GoC.region rfl ?_ | refine GoC.skip ?_ | refine GoC.exit ?_ | refine GoC.ret ?_ | (refine GoC.cond_d rfl ?_ ?_ <;> intro _ <;> try contradiction) | refine GoOps.nil ?_ | refine GoOps.a rfl ?_ | refine GoOps.p (OpL.len rfl rfl) ?_ | refine GoOps.p (OpL.idx_s rfl rfl (by with_reducible exact rfl) rfl rfl rfl rfl rfl (by (first | assumption | omega))) ?_ | refine GoOps.p (OpL.add rfl rfl (by (first | assumption | omega))) ?_ | refine GoOps.m (OpL.row rfl) ?_ | refine GoOps.m (OpL.app rfl rfl rfl rfl rfl rfl rfl rfl rfl rfl rfl (by (first | rfl | omega | (simp only [List.length_take, List.length_drop, List.length_map, List.length_append, List.length_cons, List.length_nil] <;> omega))) (by (first | rfl | omega | (simp only [List.length_take, List.length_drop, List.length_map, List.length_append, List.length_cons, List.length_nil] <;> omega))) (by (first | rfl | omega | (simp only [List.length_take, List.length_drop, List.length_map, List.length_append, List.length_cons, List.length_nil] <;> omega)))) ?_ | refine GoOps.p (OpL.ldm rfl rfl (by (first | assumption | omega)) rfl (fun _ => rfl)) ?_)
  · refine hR (i + 1) _ (by omega) (by omega) ?_
    rw [hsu (by omega)]
    rw [Nat.zero_add i]
    refine AS.sub.mk' _ _ (lk [(1000003, 19)]) rfl rfl ?_ ?_ <;> repeat' (first | exact True.intro | rfl | exact Wk.refl _ | exact Wk.of_eq (congrArg (AV.sl _ _ _ _) (by (first | rfl | omega | (simp only [List.length_take, List.length_drop, List.length_map, List.length_append, List.length_cons, List.length_nil] <;> omega)))) | exact ⟨_, rfl, Elems.mapped (fun _ => rfl) rfl⟩ | exact ⟨_, rfl, Elems.of_eq (by rw [List.map_append]; rfl) (noId_map (fun _ => rfl) _)⟩ | exact ⟨rfl, ents_noId (fun _ => rfl) (fun _ => rfl)⟩ | exact ⟨_, rfl, Elems.ren (Wks.refl _) rfl⟩ | refine And.intro ?_ ?_)
  · obtain rfl : i = p.free.length := by omega
    rw [List.take_length] at *
    refine FnPost.by (.inr rfl) ((AS.sub.frz [1000003] [(2, .list true 1 (p.spares.map (.int .i64)))] ⟨Fz.mp rfl rfl (fun _ => rfl) (by simp [Plan.spares]), trivial⟩).trans (AS.sub.drop (t := 2) rfl rfl (fun _ => rfl) (fun _ => rfl) rfl)) (RetOK.hv rfl RetOK.nil) ⟨rfl, fun q hq => ?_⟩
    simp only [planD, List.mem_cons, List.not_mem_nil, or_false] at hq
    rcases hq with rfl | rfl | rfl | rfl <;> rfl

def lostN (b : List Int) (n : Nat) : List Int := ((List.range n).filter fun i => decide (b.getD i default = -1)).map fun (i : Nat) => (i : Int)
theorem lostN_succ (b : List Int) (n : Nat) : lostN b (n + 1) = lostN b n ++ (if b.getD n default = -1 then [(n : Int)] else []) := by
  unfold lostN
  rw [List.range_succ, List.filter_append, List.map_append]
  simp only [List.filter_cons, List.filter_nil, decide_eq_true_eq]
  split <;> rfl
theorem lostN_len (b : List Int) (n : Nat) : (lostN b n).length ≤ n := by
  have := List.length_filter_le (fun i => decide (b.getD i default = -1)) (List.range n)
  simpa [lostN] using this

theorem lost_spec (f : Format) (p : Plan) (hl : p.blocks.length ≤ 10000) : Spec env 47 [.ptr 1000040 15 0 0] (ofL .free (planO f p)) (fun r H' => r = .list true 1 (p.lost.map (.int .i64)) ∧ ∀ q ∈ planD, H' q.1 = q.2) := by
  refine Spec.introR (nt := _) (rs := [_]) Tryz.func47 rfl rfl rfl rfl rfl [1000040, 1000041, 1000042, 1000043] (fun i h => ofL_keys _ i h) fun X hX => ?_
  simp only [planO]
  repeat' (first | refine GoC.seq ?_ | refine GoC.block ?_ | refine GoC.region rfl ?_ | refine GoOps.nil ?_ | refine GoOps.a rfl ?_ | refine GoOps.p (OpL.len_s rfl rfl) ?_)
  refine GoC.loop (G := Nat) (fun i => ⟨ofL .junk [(3, .sl true 1000003 1 0 (lostN p.blocks i).length), (9, .sl true 1000041 1 0 p.blocks.length), (10, .int .i64 p.blocks.length), (11, .int .i64 i)],
      ofL .free (planO f p ++ [(1000003, .arr 3 1 ((lostN p.blocks i).map (.int .i64)))]), [1000040, 1000041, 1000042, 1000043]⟩)
    (fun i => i ≤ p.blocks.length) (fun i => p.blocks.length - i) 0 (Nat.zero_le _) ((AS.sub.nilrow 3 1000003 3 1 rfl rfl).trans (by simp only [planO, List.cons_append, List.nil_append]; (refine AS.sub.mk' _ _ (lk []) rfl rfl ?_ ?_ <;> repeat' (first | exact True.intro | rfl | exact Wk.refl _ | exact ⟨_, rfl, Elems.all rfl⟩ | exact ⟨_, rfl, Elems.mapped (fun _ => rfl) rfl⟩ | exact ⟨rfl, ents_noId (fun _ => rfl) (fun _ => rfl)⟩ | exact ⟨_, rfl, Elems.ren (Wks.refl _) rfl⟩ | refine And.intro ?_ ?_)))) ?_
  intro i hi R hR
  have hln := lostN_len p.blocks i
  simp only [planO, List.cons_append, List.nil_append] at hR ⊢
  repeat' (first | refine GoC.seq ?_ | refine GoC.block ?_ | refine GoC.region rfl ?_ | refine GoC.skip ?_ | refine GoC.exit ?_ | refine GoC.ret ?_ | (refine GoC.cond_d rfl ?_ ?_ <;> intro _ <;> try contradiction) | refine GoOps.nil ?_ | refine GoOps.a rfl ?_ | refine GoOps.p (OpL.idx_s rfl rfl (by with_reducible exact rfl) rfl rfl rfl rfl rfl (by (first | assumption | omega))) ?_ | refine GoOps.p (OpL.add rfl rfl (by (first | assumption | omega))) ?_ | refine GoOps.m (OpL.row rfl) ?_ | refine GoOps.m (OpL.app rfl rfl rfl rfl rfl rfl rfl rfl rfl rfl rfl (by (first | rfl | omega | (simp only [List.length_take, List.length_drop, List.length_map, List.length_append, List.length_cons, List.length_nil] <;> omega))) (by (first | rfl | omega | (simp only [List.length_take, List.length_drop, List.length_map, List.length_append, List.length_cons, List.length_nil] <;> omega))) (by (first | rfl | omega | (simp only [List.length_take, List.length_drop, List.length_map, List.length_append, List.length_cons, List.length_nil] <;> omega)))) ?_ | refine GoOps.p (OpL.ldm rfl rfl (by (first | assumption | omega)) rfl (fun _ => rfl)) ?_)
  · rename_i h1 h2
    refine hR (i + 1) _ (by omega) (by omega) ?_
    rw [lostN_succ, if_pos (by rwa [Nat.zero_add i] at h2)]
    refine AS.sub.mk' _ _ (lk [(1000003, 21)]) rfl rfl ?_ ?_ <;> repeat' (first | exact True.intro | rfl | exact Wk.refl _ | exact Wk.of_eq (congrArg (AV.sl _ _ _ _) (by (first | rfl | omega | (simp only [List.length_take, List.length_drop, List.length_map, List.length_append, List.length_cons, List.length_nil] <;> omega)))) | exact ⟨_, rfl, Elems.mapped (fun _ => rfl) rfl⟩ | exact ⟨_, rfl, Elems.of_eq (by rw [List.map_append]; rfl) (noId_map (fun _ => rfl) _)⟩ | exact ⟨rfl, ents_noId (fun _ => rfl) (fun _ => rfl)⟩ | exact ⟨_, rfl, Elems.ren (Wks.refl _) rfl⟩ | refine And.intro ?_ ?_)
  · rename_i h1 h2
    refine hR (i + 1) _ (by omega) (by omega) ?_
    rw [lostN_succ, if_neg (by rwa [Nat.zero_add i] at h2), List.append_nil]
    (refine AS.sub.mk' _ _ (lk []) rfl rfl ?_ ?_ <;> repeat' (first | exact True.intro | rfl | exact Wk.refl _ | exact ⟨_, rfl, Elems.mapped (fun _ => rfl) rfl⟩ | exact ⟨rfl, ents_noId (fun _ => rfl) (fun _ => rfl)⟩ | exact ⟨_, rfl, Elems.ren (Wks.refl _) rfl⟩ | refine And.intro ?_ ?_))
  · obtain rfl : i = p.blocks.length := by omega
    refine FnPost.by (.inr rfl) ((AS.sub.frz [1000003] [(2, .list true 1 (p.lost.map (.int .i64)))] ⟨Fz.mp rfl rfl (fun _ => rfl) (by simp [Plan.lost, lostN]), trivial⟩).trans (AS.sub.drop (t := 2) rfl rfl (fun _ => rfl) (fun _ => rfl) rfl)) (RetOK.hv rfl RetOK.nil) ⟨rfl, fun q hq => ?_⟩
    simp only [planD, List.mem_cons, List.not_mem_nil, or_false] at hq
    rcases hq with rfl | rfl | rfl | rfl <;> rfl

def pickI (es : List (Int × Int)) (seen : List Nat) : List Int := seen.map fun j => (es.getD j default).1
theorem pickI_all {es : List (Int × Int)} {seen : List Nat} (hn : seen.Nodup) (h : ∀ x ∈ seen, x < es.length) (h' : ∀ x, x < es.length → x ∈ seen) : (pickI es seen).Perm (es.map (·.1)) := by
  have h1 := (perm_range es.length seen hn h h').map fun j => (es.getD j default).1
  have h2 : (List.range es.length).map (fun j => (es.getD j default).1) = es.map (·.1) := by
    apply List.ext_getElem (by simp)
    intro i hi1 hi2
    simp only [List.length_map, List.length_range] at hi1
    rw [List.getElem_map, List.getElem_map, List.getElem_range, gd hi1]
  rwa [h2] at h1
theorem sortI_eq {l l' : List Int} (h : l.Perm l') : (l.mergeSort fun x y => decide (x ≤ y)) = l'.mergeSort fun x y => decide (x ≤ y) := by
  have tr : ∀ a b c : Int, decide (a ≤ b) = true → decide (b ≤ c) = true → decide (a ≤ c) = true := fun a b c h h' => by simp at *; omega
  have to : ∀ a b : Int, (decide (a ≤ b) || decide (b ≤ a)) = true := fun a b => by simp; omega
  have h1 := List.pairwise_mergeSort (le := fun x y : Int => decide (x ≤ y)) tr to l
  have h2 := List.pairwise_mergeSort (le := fun x y : Int => decide (x ≤ y)) tr to l'
  refine List.Perm.eq_of_pairwise (fun a b _ _ h h' => by simp at h h'; omega) h1 h2 ?_
  exact (List.mergeSort_perm _ _).trans (h.trans (List.mergeSort_perm _ _).symm)

theorem sectors_spec (f : Format) (p : Plan) (hl : p.given.length ≤ 10000) : Spec env 34 [.ptr 1000040 15 0 0] (ofL .free (planO f p)) (fun r H' => r = .list true 1 (p.secs.map (.int .i64)) ∧ ∀ q ∈ planD, H' q.1 = q.2) := by
  refine Spec.introR (nt := _) (rs := [_]) Tryz.func34 rfl rfl rfl rfl rfl [1000040, 1000041, 1000042, 1000043] (fun i h => ofL_keys _ i h) fun X hX => ?_
  simp only [planO]
  repeat' (first | refine GoC.seq ?_ | refine GoC.region rfl ?_ | refine GoOps.nil ?_ | refine GoOps.a rfl ?_)
  refine GoOps.m (OpL.range rfl rfl rfl rfl) ?_
  repeat' (first | refine GoC.block ?_ | refine GoOps.nil ?_)
  refine GoC.loop (G := List Nat) (fun seen => ⟨ofL .junk [(3, .sl true 1000003 1 0 (pickI p.given seen).length), (9, .ptr 9 0 0 0)],
      ofL .free ((9, .iter 1000043 p.given.length seen) :: (planO f p ++ [(1000003, .arr 3 1 ((pickI p.given seen).map (.int .i64)))])), [1000040, 1000041, 1000042, 1000043]⟩)
    (fun seen => seen.Nodup ∧ ∀ x ∈ seen, x < p.given.length) (fun seen => p.given.length - seen.length) [] ⟨List.nodup_nil, fun x h => by simp at h⟩ ((AS.sub.nilrow 3 1000003 3 1 rfl rfl).trans (by simp only [planO, List.cons_append, List.nil_append]; (refine AS.sub.mk' _ _ (lk []) rfl rfl ?_ ?_ <;> repeat' (first | exact True.intro | rfl | exact Wk.refl _ | exact ⟨_, rfl, Elems.all rfl⟩ | exact ⟨_, rfl, Elems.mapped (fun _ => rfl) rfl⟩ | exact ⟨rfl, rfl⟩ | exact ⟨rfl, ents_noId (fun _ => rfl) (fun _ => rfl)⟩ | exact ⟨_, rfl, Elems.ren (Wks.refl _) rfl⟩ | refine And.intro ?_ ?_)))) ?_
  rintro seen ⟨hn, hlt⟩ R hR
  try dsimp only at *
  have hlen := nodup_le _ _ hn hlt
  have hpl : (pickI p.given seen).length = seen.length := by simp [pickI]
  simp only [planO, List.cons_append, List.nil_append] at hR ⊢
  refine GoC.seq (GoC.region rfl ?_)
  refine GoOps.next rfl rfl rfl rfl (fun hall => ?_) (fun j q hq hj => ?_)
  · repeat' (first | refine GoC.seq ?_ | refine GoC.region rfl ?_ | refine GoC.exit ?_ | refine GoC.cond_f rfl ?_ | refine GoOps.nil ?_ | refine GoOps.a rfl ?_)
    have hpm := pickI_all hn hlt hall
    refine GoOps.m (OpL.sortI rfl rfl rfl rfl (by omega)) ?_
    have hse : ((pickI p.given seen).mergeSort fun x y => decide (x ≤ y)) = p.secs := sortI_eq hpm
    have hsl : p.secs.length = (pickI p.given seen).length := by rw [← hse]; simp
    rw [hse]
    repeat' (first | refine GoC.seq ?_ | refine GoC.region rfl ?_ | refine GoC.ret ?_ | refine GoOps.nil ?_ | refine GoOps.a rfl ?_)
    refine FnPost.by (.inr rfl) ((AS.sub.frz [1000003] [(2, .list true 1 (p.secs.map (.int .i64)))] ⟨Fz.mp rfl rfl (fun _ => rfl) (by simp [hsl]), trivial⟩).trans (AS.sub.drop (t := 2) rfl rfl (fun _ => rfl) (fun _ => rfl) rfl)) (RetOK.hv rfl RetOK.nil) ⟨rfl, fun q hq => ?_⟩
    simp only [planD, List.mem_cons, List.not_mem_nil, or_false] at hq
    rcases hq with rfl | rfl | rfl | rfl <;> rfl
  · have hjl : j < p.given.length := (List.getElem?_eq_some_iff.1 hq).1
    have hn2 : (j :: seen).Nodup := List.nodup_cons.2 ⟨hj, hn⟩
    have hlen2 := nodup_le p.given.length (j :: seen) hn2 fun x hx => by
      rcases List.mem_cons.1 hx with rfl | hx
      · exact hjl
      · exact hlt x hx
    simp only [List.length_cons] at hlen2
    have hpk : pickI p.given (seen ++ [j]) = pickI p.given seen ++ [q.1] := by
      rw [pickI, List.map_append]
      simp only [List.map_cons, List.map_nil]
      rw [List.getD_eq_getElem?_getD, hq]
      rfl
    repeat' (first | refine GoC.seq ?_ | refine GoC.block ?_ | refine GoC.region rfl ?_ | refine GoC.skip ?_ | refine GoC.cond_t rfl ?_ | refine GoOps.nil ?_ | refine GoOps.a rfl ?_)
    refine GoOps.p (OpL.entry (a := q.1) (x := q.2) rfl rfl rfl rfl hq) ?_
    repeat' (first | refine GoC.region rfl ?_ | refine GoOps.nil ?_ | refine GoOps.a rfl ?_ | refine GoOps.m (OpL.row rfl) ?_ | refine GoOps.m (OpL.app rfl rfl rfl rfl rfl rfl rfl rfl rfl rfl rfl (by (first | rfl | omega | (simp only [List.length_take, List.length_drop, List.length_map, List.length_append, List.length_cons, List.length_nil] <;> omega))) (by (first | rfl | omega | (simp only [List.length_take, List.length_drop, List.length_map, List.length_append, List.length_cons, List.length_nil] <;> omega))) (by (first | rfl | omega | (simp only [List.length_take, List.length_drop, List.length_map, List.length_append, List.length_cons, List.length_nil] <;> omega)))) ?_)
    refine hR (seen ++ [j]) _ ⟨?_, fun x hx => ?_⟩ (by simp only [List.length_append, List.length_cons, List.length_nil]; omega) (by rw [hpk]; refine AS.sub.mk' _ _ (lk [(1000003, 17)]) rfl rfl ?_ ?_ <;> repeat' (first | exact True.intro | rfl | exact Wk.refl _ | exact Wk.of_eq (congrArg (AV.sl _ _ _ _) (by (first | rfl | omega | (simp only [List.length_take, List.length_drop, List.length_map, List.length_append, List.length_cons, List.length_nil] <;> omega)))) | exact ⟨_, rfl, Elems.mapped (fun _ => rfl) rfl⟩ | exact ⟨_, rfl, Elems.of_eq (by rw [List.map_append]; rfl) (noId_map (fun _ => rfl) _)⟩ | exact ⟨rfl, rfl⟩ | exact ⟨rfl, ents_noId (fun _ => rfl) (fun _ => rfl)⟩ | exact ⟨_, rfl, Elems.ren (Wks.refl _) rfl⟩ | refine And.intro ?_ ?_))
    · exact (List.perm_append_singleton j seen).nodup_iff.2 hn2
    · rcases List.mem_append.1 hx with hx | hx
      · exact hlt x hx
      · simp only [List.mem_singleton] at hx; subst hx; exact hjl
end Go.Proofs.YtfbjoamdkieamaaGreat.AM
end

section
set_option linter.unusedSimpArgs false
set_option linter.unusedVariables false
set_option maxHeartbeats 8000000
namespace Go.Proofs.YtfbjoamdkieamaaGreat.AM
open Go Go.Proofs Go.Sort

/-- A valid format of few messages. -/
structure Valid (f : Format) : Prop where
  check : f.check = 0
  few : (lDone f.grown).length ≤ 19
theorem Format.form_of {f : Format} (h : f.form = 0) : f.disk.ok ∧ formatP f := by
  unfold Format.form at h
  split at h
  · rename_i h1
    split at h
    · rename_i h2; exact ⟨h1, h2⟩
    · omega
  · omega
theorem Format.check_of {f : Format} (h : f.check = 0) : f.disk.ok ∧ formatP f ∧ ¬ clashL f.grown := by
  unfold Format.check at h
  split at h
  · rename_i h0
    split at h
    · omega
    · rename_i h1
      obtain ⟨h2, h3⟩ := Format.form_of h0
      exact ⟨h2, h3, h1⟩
  · omega
theorem formatP.inVD {f : Format} (h : formatP f) : inVD f.grown := by
  intro d hd
  obtain ⟨j, hj, rfl⟩ := List.mem_iff_getElem.1 hd
  have := h.2.2.2.2 j hj
  simp only [nth] at this
  rw [gd hj] at this
  exact ⟨this.1, this.2.1⟩
theorem Valid.lay {f : Format} (h : Valid f) : Spec env 32 [f.av] (ofL .free []) (fun r H' => r = .tuple [.ptr 1000040 15 0 0, .int .i64 0] ∧ ∀ q ∈ planO f (layP f), H' q.1 = q.2) := by
  obtain ⟨h1, h2, h3⟩ := Format.check_of h.check
  exact lay_spec f h.check h1.good h2.1 h2.2.1 h2.2.2.1 h2.inVD h.few
theorem Valid.good {f : Format} (h : Valid f) : (layP f).GoodN f.disk 79 := by
  obtain ⟨h1, h2, h3⟩ := Format.check_of h.check
  have := growL_good (plan0_good h1.good) (msgs f) (msgs f).length (Nat.le_refl _)
  rw [List.take_length] at this
  have hm : (msgs f).length ≤ 19 := by rw [msgs, insSt_len]; exact h.few
  exact ⟨this.len, this.blocks, this.sorted, fun s => ⟨(this.given s).1, Int.le_trans (this.given s).2 (by have := h2.2.1; omega)⟩⟩
theorem mput_len {κ ν : Type} [DecidableEq κ] (m : List (κ × ν)) (a : κ) (v : ν) : (mput m a v).length ≤ m.length + 1 := by
  have : ((mput m a v).map (·.1)).length ≤ m.length + 1 := by rw [mput_keys]; split <;> simp
  simpa using this
theorem tally_len (l : List Int) : (tally l).length ≤ l.length := by
  have key : ∀ (l : List Int) (m : List (Int × Int)), (l.foldl (fun m s => mput m s ((mget m s).getD 0 + 1)) m).length ≤ m.length + l.length := by
    intro l
    induction l with
    | nil => intro m; simp
    | cons x l ih =>
      intro m
      have h1 := ih (mput m x ((mget m x).getD 0 + 1))
      have h2 := mput_len m x ((mget m x).getD 0 + 1)
      simp only [List.foldl_cons, List.length_cons]
      omega
  simpa [tally] using key l []
theorem grow_given (d : Disk) (p : Plan) (s : Int) : (p.grow d s).given = mput p.given s ((mget p.given s).getD 0 + 1) := by
  unfold Plan.grow
  dsimp only
  split
  · rfl
  split
  · rfl
  split
  · rfl
  split <;> rfl
theorem growL_given (f : Format) (l : List Defect) : ∀ p : Plan, (growL f p l).given.length ≤ p.given.length + l.length := by
  induction l with
  | nil => intro p; simp [growL]
  | cons x l ih =>
    intro p
    have h1 := ih (p.grow f.disk x.sector)
    rw [grow_given] at h1
    have h2 := mput_len p.given x.sector ((mget p.given x.sector).getD 0 + 1)
    simp only [growL, List.foldl_cons, List.length_cons] at *
    omega
theorem Valid.given {f : Format} (h : Valid f) : (layP f).given.length ≤ 10000 := by
  obtain ⟨h1, h2, h3⟩ := Format.check_of h.check
  have h4 := growL_given f (msgs f) (plan0 f)
  have h5 := tally_len f.primary
  have hm : (msgs f).length ≤ 19 := by rw [msgs, insSt_len]; exact h.few
  have h6 := h2.2.1
  have h7 : (plan0 f).given = tally f.primary := rfl
  rw [h7] at h4
  show (growL f (plan0 f) (msgs f)).given.length ≤ _
  omega

theorem list_spec (f : Format) (hf : Valid f) {g : Nat} {L : List Int} (hT : Spec env g [.ptr 1000040 15 0 0] (ofL .free (planO f (layP f))) (fun r H' => r = .list true 1 (L.map (.int .i64)) ∧ ∀ q ∈ planD, H' q.1 = q.2)) :
    PSpec env 33 [f.av, .fn (.func g) [] []] (.tuple [.list true 1 (L.map (.int .i64)), .int .i64 0]) := by
  have hlay := hf.lay
  generalize layP f = p at *
  simp only [planO, planD] at hT hlay
  refine Spec.introR (nt := _) (rs := [_, _]) Tryz.func33 rfl rfl rfl rfl rfl [] (fun i h => absurd rfl h) fun X hX => ?_
  repeat' (first | refine GoC.seq ?_ | refine GoC.region rfl ?_ | refine GoOps.nil ?_ | refine GoOps.a rfl ?_ | refine GoOps.m (OpL.boxw (by rfl) rfl rfl rfl rfl) ?_)
  refine GoOps.m (OpL.callO (lk []) rfl rfl hlay rfl rfl trivial (by rfl) (by rfl) (post := [(1000040, _), (1000041, _), (1000042, _), (1000043, _)])
      (by exact ⟨⟨rfl, ⟨_, rfl, OutE.ren rfl⟩, .inr rfl⟩, ⟨rfl, ⟨_, rfl, OutE.mapped fun _ => rfl⟩, .inr rfl⟩, ⟨rfl, ⟨_, rfl, OutE.mapped fun _ => rfl⟩, .inr rfl⟩, ⟨rfl, ⟨rfl, ents_noId (fun _ => rfl) (fun _ => rfl)⟩, .inr rfl⟩, trivial⟩) (by rfl) (by rfl)) ?_
  repeat' (first | refine GoC.seq ?_ | refine GoC.region rfl ?_ | refine GoC.skip ?_ | refine GoC.cond_f rfl ?_ | refine GoOps.nil ?_ | refine GoOps.a rfl ?_)
  refine GoOps.m (OpL.callO (lk []) rfl rfl hT rfl rfl ⟨⟨_, rfl, Elems.ren (Wks.refl _) rfl⟩, ⟨_, rfl, Elems.mapped (fun _ => rfl) rfl⟩, ⟨_, rfl, Elems.mapped (fun _ => rfl) rfl⟩, ⟨rfl, ents_noId (fun _ => rfl) (fun _ => rfl)⟩, trivial⟩ (by rfl) (by rfl)
      (post := [(1000040, .dead), (1000041, .dead), (1000042, .dead), (1000043, .dead)])
      (by exact ⟨⟨rfl, rfl, rfl⟩, ⟨rfl, rfl, rfl⟩, ⟨rfl, rfl, rfl⟩, ⟨rfl, rfl, rfl⟩, trivial⟩) (by rfl) (by rfl)) ?_
  repeat' (first | refine GoC.ret ?_ | refine GoOps.nil ?_ | refine GoOps.a rfl ?_)
  ((try dsimp only [thenA, inBlockA]); refine FnPost.many (.inr rfl) (RetOK.hv rfl (RetOK.hv rfl RetOK.nil)) ?_; (try dsimp only [tup]))

theorem Given_spec (f : Format) (hf : Valid f) : PSpec env 10 [f.av] (.tuple [.list true 1 ((layP f).secs.map (.int .i64)), .int .i64 0]) := by
  have h1 := list_spec f hf (sectors_spec f (layP f) hf.given)
  refine Spec.introR (nt := _) (rs := [_, _]) Tryz.func10 rfl rfl rfl rfl rfl [] (fun i h => absurd rfl h) fun X hX => ?_
  repeat' (first | refine GoC.seq ?_ | refine GoC.region rfl ?_ | refine GoC.ret ?_ | refine GoOps.nil ?_ | refine GoOps.a rfl ?_ | refine GoOps.m (OpL.boxw (by rfl) rfl rfl rfl rfl) ?_ | refine GoOps.p (OpL.call rfl rfl (h1) rfl rfl) ?_)
  ((try dsimp only [thenA, inBlockA]); refine FnPost.many (.inr rfl) (RetOK.hv rfl (RetOK.hv rfl RetOK.nil)) ?_; (try dsimp only [tup]))
theorem Free_spec (f : Format) (hf : Valid f) : PSpec env 11 [f.av] (.tuple [.list true 1 ((layP f).spares.map (.int .i64)), .int .i64 0]) := by
  obtain ⟨hd, _⟩ := Format.check_of hf.check
  have hl := hd.good.len
  have h1 := list_spec f hf (spares_spec f (layP f) (by have := hf.good.len; omega))
  refine Spec.introR (nt := _) (rs := [_, _]) Tryz.func11 rfl rfl rfl rfl rfl [] (fun i h => absurd rfl h) fun X hX => ?_
  repeat' (first | refine GoC.seq ?_ | refine GoC.region rfl ?_ | refine GoC.ret ?_ | refine GoOps.nil ?_ | refine GoOps.a rfl ?_ | refine GoOps.m (OpL.boxw (by rfl) rfl rfl rfl rfl) ?_ | refine GoOps.p (OpL.call rfl rfl (h1) rfl rfl) ?_)
  ((try dsimp only [thenA, inBlockA]); refine FnPost.many (.inr rfl) (RetOK.hv rfl (RetOK.hv rfl RetOK.nil)) ?_; (try dsimp only [tup]))
theorem Lost_spec (f : Format) (hf : Valid f) : PSpec env 23 [f.av] (.tuple [.list true 1 ((layP f).lost.map (.int .i64)), .int .i64 0]) := by
  have h1 := list_spec f hf (lost_spec f (layP f) hf.good.blocks)
  refine Spec.introR (nt := _) (rs := [_, _]) Tryz.func23 rfl rfl rfl rfl rfl [] (fun i h => absurd rfl h) fun X hX => ?_
  repeat' (first | refine GoC.seq ?_ | refine GoC.region rfl ?_ | refine GoC.ret ?_ | refine GoOps.nil ?_ | refine GoOps.a rfl ?_ | refine GoOps.m (OpL.boxw (by rfl) rfl rfl rfl rfl) ?_ | refine GoOps.p (OpL.call rfl rfl (h1) rfl rfl) ?_)
  ((try dsimp only [thenA, inBlockA]); refine FnPost.many (.inr rfl) (RetOK.hv rfl (RetOK.hv rfl RetOK.nil)) ?_; (try dsimp only [tup]))
theorem Blocks_spec (f : Format) (hf : Valid f) : PSpec env 16 [f.av] (.tuple [.int .i64 (layP f).blocks.length, .int .i64 0]) := by
  have h1 := list_spec f hf (blocks_spec f (layP f))
  refine Spec.introR (nt := _) (rs := [_, _]) Tryz.func16 rfl rfl rfl rfl rfl [] (fun i h => absurd rfl h) fun X hX => ?_
  repeat' (first | refine GoC.seq ?_ | refine GoC.region rfl ?_ | refine GoC.ret ?_ | refine GoOps.nil ?_ | refine GoOps.a rfl ?_ | refine GoOps.p (OpL.len rfl rfl) ?_ | refine GoOps.m (OpL.boxw (by rfl) rfl rfl rfl rfl) ?_ | refine GoOps.p (OpL.call rfl rfl (h1) rfl rfl) ?_)
  ((try dsimp only [thenA, inBlockA]); refine FnPost.many (.inr rfl) (RetOK.hv rfl (RetOK.hv rfl RetOK.nil)) ?_; (try dsimp only [tup]))

def Plan.where_ (p : Plan) (b : Int) : Int × Int := if b < 0 ∨ p.blocks.length ≤ b then (0, 1) else if p.blocks.getD b.toNat default = -1 then (0, 3) else (p.blocks.getD b.toNat default, 0)
theorem Where_spec (f : Format) (hf : Valid f) (b : Int) : PSpec env 9 [f.av, .int .i64 b] (.tuple [.int .i64 ((layP f).where_ b).1, .int .i64 ((layP f).where_ b).2]) := by
  have hlay := hf.lay
  generalize layP f = p at *
  simp only [planO] at hlay
  refine Spec.introR (nt := _) (rs := [_, _]) Tryz.func9 rfl rfl rfl rfl rfl [] (fun i h => absurd rfl h) fun X hX => ?_
  repeat' (first | refine GoC.seq ?_ | refine GoC.region rfl ?_ | refine GoOps.nil ?_ | refine GoOps.a rfl ?_ | refine GoOps.m (OpL.boxw (by rfl) rfl rfl rfl rfl) ?_)
  refine GoOps.m (OpL.callO (lk []) rfl rfl hlay rfl rfl trivial (by rfl) (by rfl) (post := [(1000040, _), (1000041, _), (1000042, _), (1000043, _)])
      (by exact ⟨⟨rfl, ⟨_, rfl, OutE.ren rfl⟩, .inr rfl⟩, ⟨rfl, ⟨_, rfl, OutE.mapped fun _ => rfl⟩, .inr rfl⟩, ⟨rfl, ⟨_, rfl, OutE.mapped fun _ => rfl⟩, .inr rfl⟩, ⟨rfl, ⟨rfl, ents_noId (fun _ => rfl) (fun _ => rfl)⟩, .inr rfl⟩, trivial⟩) (by rfl) (by rfl)) ?_
  repeat' (first | refine GoC.seq ?_ | refine GoC.block ?_ | refine GoC.region rfl ?_ | refine GoC.skip ?_ | refine GoC.ret ?_ | refine GoC.cond_t rfl ?_ | refine GoC.cond_f rfl ?_ | (refine GoC.cond_d rfl ?_ ?_ <;> intro _ <;> try contradiction) | refine GoOps.nil ?_ | refine GoOps.a rfl ?_ | refine GoOps.u rfl rfl rfl rfl ?_ | refine GoOps.gs rfl rfl rfl rfl ?_ | refine GoOps.p (OpL.len_s rfl rfl) ?_ | refine GoOps.p (OpL.idx_sn rfl rfl rfl rfl rfl rfl (by (first | assumption | omega))) ?_ | refine GoOps.p (OpL.ldm rfl rfl (by (first | assumption | omega)) rfl (fun _ => rfl)) ?_ | (refine GoOps.sd rfl rfl ?_ ?_ <;> intro _ <;> try contradiction))
  all_goals (((try dsimp only [thenA, inBlockA]); refine FnPost.many (.inr rfl) (RetOK.hv rfl (RetOK.hv rfl RetOK.nil)) ?_; (try dsimp only [tup])); unfold Plan.where_; first | (rw [if_pos (by omega)]) | (rw [if_neg (by omega), if_pos (by assumption)]) | (rw [if_neg (by omega), if_neg (by assumption)]))
end Go.Proofs.YtfbjoamdkieamaaGreat.AM
end

section
set_option linter.unusedSimpArgs false
set_option linter.unusedVariables false
set_option maxHeartbeats 8000000
namespace Go.Proofs.YtfbjoamdkieamaaGreat.AM
open Go

theorem Copy01_spec (d : Disk) (hl : d.zones.length ≤ 1000) : PSpec env 31 [d.av] d.av := by
  refine Spec.intro (nt := _) (rs := [_]) Tryz.func31 rfl rfl rfl rfl rfl [] (fun _ h => absurd rfl h) fun X => ?_
  repeat' (first | refine GoC.seq ?_ | refine GoC.region rfl ?_ | refine GoC.ret ?_ | refine GoOps.nil ?_ | refine GoOps.a rfl ?_ | refine GoOps.b rfl ?_ | refine GoOps.m (OpL.row rfl) ?_ | refine GoOps.m (OpL.appl rfl rfl rfl rfl rfl rfl rfl rfl rfl (fun _ => rfl) (by (first | rfl | omega | (simp only [List.length_take, List.length_drop, List.length_map, List.length_append, List.length_cons, List.length_nil] <;> omega))) (by (first | rfl | omega | (simp only [List.length_take, List.length_drop, List.length_map, List.length_append, List.length_cons, List.length_nil] <;> omega)))) ?_ | refine GoOps.m (OpL.boxw (by rfl) rfl rfl rfl rfl) ?_ | refine GoOps.n (OpL.st1 rfl) ?_)
  refine FnPost.frz [8] [] [(2, .arr 26 9 [d.av])] trivial ?_ ?_
  · repeat' (first | exact ⟨⟨by decide, _, rfl, ElF.cons (by repeat' (first | exact Fz.same _ | exact Fz.mp rfl rfl (fun _ => rfl) (by (first | rfl | omega | (simp only [List.length_take, List.length_drop, List.length_map, List.length_append, List.length_cons, List.length_nil] <;> omega))) | refine Fz.agg1 ?_ ?_)) (ElF.same _)⟩, trivial⟩)
  refine FnPost.by (.inr rfl) (AS.sub.refl _) (RetOK.cellF rfl rfl rfl rfl rfl RetOK.nil) ?_
  rfl

theorem Copy03_spec (f : Format) (hl : f.disk.zones.length ≤ 1000) (hp : f.primary.length ≤ 1000000) (hg : f.grown.length ≤ 1000000) : PSpec env 8 [f.av] f.av := by
  refine Spec.intro (nt := _) (rs := [_]) Tryz.func8 rfl rfl rfl rfl rfl [] (fun _ h => absurd rfl h) fun X => ?_
  repeat' (first | refine GoC.seq ?_ | refine GoC.region rfl ?_ | refine GoC.draw env_mixed ?_ | refine GoC.ret ?_ | refine GoOps.nil ?_ | refine GoD.done rfl rfl (by kernel_rfl) ?_ | refine GoD.a rfl ?_ | refine GoOps.b rfl ?_ | refine GoD.p (OpL.build rfl) ?_ | refine GoD.m (OpL.row rfl) ?_ | refine GoD.m (OpL.appl rfl rfl rfl rfl rfl rfl rfl rfl rfl (fun _ => rfl) (by (first | rfl | omega | (simp only [List.length_take, List.length_drop, List.length_map, List.length_append, List.length_cons, List.length_nil] <;> omega))) (by (first | rfl | omega | (simp only [List.length_take, List.length_drop, List.length_map, List.length_append, List.length_cons, List.length_nil] <;> omega)))) ?_ | refine GoOps.m (OpL.boxw (by rfl) rfl rfl rfl rfl) ?_ | refine GoD.n (OpL.st1 rfl) ?_ | refine GoD.p (OpL.call rfl rfl (Copy01_spec f.disk hl) rfl rfl) ?_)
  refine FnPost.frz [11, 15] [] [(2, .arr 30 12 [f.av])] trivial ?_ ?_
  · repeat' (first | exact ⟨⟨by decide, _, rfl, ElF.cons (by repeat' (first | exact Fz.same _ | exact Fz.mp rfl rfl (fun _ => rfl) (by (first | rfl | omega | (simp only [List.length_take, List.length_drop, List.length_map, List.length_append, List.length_cons, List.length_nil] <;> omega))) | refine Fz.agg1 ?_ ?_)) (ElF.same _)⟩, trivial⟩)
  refine FnPost.by (.inr rfl) (AS.sub.refl _) (RetOK.cellF rfl rfl rfl rfl rfl RetOK.nil) ?_
  rfl
end Go.Proofs.YtfbjoamdkieamaaGreat.AM
end

section
set_option linter.unusedSimpArgs false
set_option linter.unusedVariables false
set_option maxHeartbeats 8000000
namespace Go.Proofs.YtfbjoamdkieamaaGreat.AM
open Go

theorem ext_nth {α : Type} [Inhabited α] {l l' : List α} (h : l.length = l'.length) (h' : ∀ i, i < l.length → l.getD i default = l'.getD i default) : l = l' := by
  refine List.ext_getElem h fun i h1 h2 => ?_
  have := h' i h1
  rwa [gd h1, gd h2] at this

theorem AllEqZ {a b : Zone} : AllEq [(a.cyl, b.cyl), (a.sec, b.sec)] ↔ a = b := by
  cases a; cases b; simp [AllEq]
theorem AllEqS {a b : Span} : AllEq [(a.low, b.low), (a.high, b.high)] ↔ a = b := by
  cases a; cases b; simp [AllEq]

theorem Same_spec (f g : Format) : PSpec env 14 [f.av, g.av] (.bool (decide (f = g))) := by
  refine Spec.intro (nt := _) (rs := [_]) Tryz.func14 rfl rfl rfl rfl rfl [] (fun _ h => absurd rfl h) fun X => ?_
  repeat' (first | refine GoC.seq ?_ | refine GoC.block ?_ | refine GoC.region rfl ?_ | refine GoC.skip ?_ | refine GoC.ret ?_ | refine GoC.cond_t rfl ?_ | (refine GoC.cond_d rfl ?_ ?_ <;> intro _ <;> try contradiction) | refine GoOps.nil ?_ | refine GoOps.a rfl ?_ | refine GoOps.u rfl rfl rfl rfl ?_ | refine GoOps.gs rfl rfl rfl rfl ?_ | refine GoOps.p (OpL.len rfl rfl) ?_ | refine GoOps.m (OpL.boxw (by rfl) rfl rfl rfl rfl) ?_ | (refine GoOps.sd rfl rfl ?_ ?_ <;> intro _ <;> try contradiction))
  iterate 4 (· rename_i h; ((try dsimp only [thenA, inBlockA]); refine FnPost.many (.inr rfl) (RetOK.hv rfl RetOK.nil) ?_; (try dsimp only [tup])); rw [decide_eq_false]; rintro rfl; exact h rfl)
  rename_i h1 h2 h3 h4
  have e1 : f.primary.length = g.primary.length := by omega
  have e2 : f.grown.length = g.grown.length := by omega
  have e3 : f.disk.zones.length = g.disk.zones.length := by omega
  refine GoC.loop (G := Nat) (fun i => ⟨ofL .junk [(2, .ptr 2 12 0 0), (3, .ptr 3 12 0 0), (5, .int .i64 i)], ofL .free [(2, .arr 30 12 [f.av]), (3, .arr 30 12 [g.av])], []⟩) (fun i => i ≤ f.primary.length ∧ ∀ j, j < i → f.primary.getD j default = g.primary.getD j default) (fun i => f.primary.length - i) 0 ⟨Nat.zero_le _, fun j h => absurd h (Nat.not_lt_zero j)⟩ (by (refine AS.sub.mk' _ _ (lk []) rfl rfl ?_ ?_ <;> repeat' (first | exact True.intro | rfl | exact Wk.refl _ | exact ⟨_, rfl, Elems.all rfl⟩ | refine And.intro ?_ ?_))) ?_
  rintro i ⟨hi, hz⟩ R hR
  repeat' (first | refine GoC.seq ?_ | refine GoC.block ?_ | refine GoC.region rfl ?_ | refine GoC.draw env_mixed ?_ | refine GoC.skip ?_ | refine GoC.exit ?_ | refine GoC.ret ?_ | (refine GoC.cond_d rfl ?_ ?_ <;> intro _ <;> try contradiction) | refine GoOps.nil ?_ | refine GoD.done rfl rfl (by kernel_rfl) ?_ | refine GoOps.a rfl ?_ | refine GoD.a rfl ?_ | refine GoOps.p (OpL.len rfl rfl) ?_ | refine GoD.p (OpL.idx rfl rfl (by with_reducible exact rfl) rfl rfl rfl rfl (by (first | assumption | omega))) ?_)
  · rename_i h5 h6
    ((try dsimp only [thenA, inBlockA]); refine FnPost.many (.inr rfl) (RetOK.hv rfl RetOK.nil) ?_; (try dsimp only [tup])); rw [decide_eq_false]; rintro rfl; exact h6 rfl
  · refine GoOps.bnd 44 rfl fun hb => ?_
    repeat' (first | refine GoOps.nil ?_ | refine GoOps.a rfl ?_ | refine GoOps.p (OpL.add rfl rfl (by (first | assumption | omega))) ?_)
    rename_i h5 h6
    refine hR (i + 1) _ ⟨by omega, fun j hj => ?_⟩ (by omega) (by (refine AS.sub.mk' _ _ (lk []) rfl rfl ?_ ?_ <;> repeat' (first | exact True.intro | rfl | exact Wk.refl _ | exact ⟨_, rfl, Elems.all rfl⟩ | refine And.intro ?_ ?_)))
    by_cases h : j < i
    · exact hz j h
    · obtain rfl : j = i := by omega
      omega
  have hp : f.primary = g.primary := ext_nth e1 fun j hj => hz j (by omega)
  refine GoC.loop (G := Nat) (fun i => ⟨ofL .junk [(2, .ptr 2 12 0 0), (3, .ptr 3 12 0 0), (6, .int .i64 i)], ofL .free [(2, .arr 30 12 [f.av]), (3, .arr 30 12 [g.av])], []⟩) (fun i => i ≤ f.grown.length ∧ ∀ j, j < i → f.grown.getD j default = g.grown.getD j default) (fun i => f.grown.length - i) 0 ⟨Nat.zero_le _, fun j h => absurd h (Nat.not_lt_zero j)⟩ (by (refine AS.sub.mk' _ _ (lk []) rfl rfl ?_ ?_ <;> repeat' (first | exact True.intro | rfl | exact Wk.refl _ | exact ⟨_, rfl, Elems.all rfl⟩ | refine And.intro ?_ ?_))) ?_
  rintro i2 ⟨hi2, hz2⟩ R2 hR2
  repeat' (first | refine GoC.seq ?_ | refine GoC.block ?_ | refine GoC.region rfl ?_ | refine GoC.draw env_mixed ?_ | refine GoC.skip ?_ | refine GoC.exit ?_ | refine GoC.ret ?_ | (refine GoC.cond_d rfl ?_ ?_ <;> intro _ <;> try contradiction) | refine GoOps.nil ?_ | refine GoD.done rfl rfl (by kernel_rfl) ?_ | refine GoOps.a rfl ?_ | refine GoD.a rfl ?_ | refine GoOps.p (OpL.len rfl rfl) ?_ | refine GoD.p (OpL.idx rfl rfl (by with_reducible exact rfl) rfl rfl rfl rfl (by (first | assumption | omega))) ?_ | refine GoD.p (OpL.nes (ps := [(_, _), (_, _), (_, _)]) (env_eqs rfl) rfl rfl rfl rfl) ?_)
  · rename_i h5 h6
    ((try dsimp only [thenA, inBlockA]); refine FnPost.many (.inr rfl) (RetOK.hv rfl RetOK.nil) ?_; (try dsimp only [tup])); rw [decide_eq_false]; rintro rfl; exact h6 (AllEq3.2 rfl)
  · refine GoOps.bnd 62 rfl fun hb => ?_
    repeat' (first | refine GoOps.nil ?_ | refine GoOps.a rfl ?_ | refine GoOps.p (OpL.add rfl rfl (by (first | assumption | omega))) ?_)
    rename_i h5 h6
    refine hR2 (i2 + 1) _ ⟨by omega, fun j hj => ?_⟩ (by omega) (by (refine AS.sub.mk' _ _ (lk []) rfl rfl ?_ ?_ <;> repeat' (first | exact True.intro | rfl | exact Wk.refl _ | exact ⟨_, rfl, Elems.all rfl⟩ | refine And.intro ?_ ?_)))
    by_cases h : j < i2
    · exact hz2 j h
    · obtain rfl : j = i2 := by omega
      exact AllEq3.1 (Decidable.of_not_not h6)
  have hg : f.grown = g.grown := ext_nth e2 fun j hj => hz2 j (by omega)
  refine GoC.loop (G := Nat) (fun i => ⟨ofL .junk [(2, .ptr 2 12 0 0), (3, .ptr 3 12 0 0), (7, .int .i64 i)], ofL .free [(2, .arr 30 12 [f.av]), (3, .arr 30 12 [g.av])], []⟩) (fun i => i ≤ f.disk.zones.length ∧ ∀ j, j < i → f.disk.zones.getD j default = g.disk.zones.getD j default) (fun i => f.disk.zones.length - i) 0 ⟨Nat.zero_le _, fun j h => absurd h (Nat.not_lt_zero j)⟩ (by (refine AS.sub.mk' _ _ (lk []) rfl rfl ?_ ?_ <;> repeat' (first | exact True.intro | rfl | exact Wk.refl _ | exact ⟨_, rfl, Elems.all rfl⟩ | refine And.intro ?_ ?_))) ?_
  rintro i3 ⟨hi3, hz3⟩ R3 hR3
  repeat' (first | refine GoC.seq ?_ | refine GoC.block ?_ | refine GoC.region rfl ?_ | refine GoC.draw env_mixed ?_ | refine GoC.skip ?_ | refine GoC.exit ?_ | refine GoC.ret ?_ | (refine GoC.cond_d rfl ?_ ?_ <;> intro _ <;> try contradiction) | refine GoOps.nil ?_ | refine GoD.done rfl rfl (by kernel_rfl) ?_ | refine GoOps.a rfl ?_ | refine GoOps.u rfl rfl rfl rfl ?_ | refine GoOps.gs rfl rfl rfl rfl ?_ | refine GoD.a rfl ?_ | refine GoOps.p (OpL.len rfl rfl) ?_ | refine GoD.p (OpL.idx rfl rfl (by with_reducible exact rfl) rfl rfl rfl rfl (by (first | assumption | omega))) ?_ | refine GoOps.p (OpL.eqs (ps := [(_, _), (_, _)]) (env_eqs rfl) rfl rfl rfl rfl) ?_ | refine GoD.p (OpL.nes (ps := [(_, _), (_, _)]) (env_eqs rfl) rfl rfl rfl rfl) ?_ | (refine GoOps.sd rfl rfl ?_ ?_ <;> intro _ <;> try contradiction))
  · rename_i h5 h6
    ((try dsimp only [thenA, inBlockA]); refine FnPost.many (.inr rfl) (RetOK.hv rfl RetOK.nil) ?_; (try dsimp only [tup])); rw [decide_eq_false]; rintro rfl; exact h6 (AllEqZ.2 rfl)
  · refine GoOps.bnd 81 rfl fun hb => ?_
    repeat' (first | refine GoOps.nil ?_ | refine GoOps.a rfl ?_ | refine GoOps.p (OpL.add rfl rfl (by (first | assumption | omega))) ?_)
    rename_i h5 h6
    refine hR3 (i3 + 1) _ ⟨by omega, fun j hj => ?_⟩ (by omega) (by (refine AS.sub.mk' _ _ (lk []) rfl rfl ?_ ?_ <;> repeat' (first | exact True.intro | rfl | exact Wk.refl _ | exact ⟨_, rfl, Elems.all rfl⟩ | refine And.intro ?_ ?_)))
    by_cases h : j < i3
    · exact hz3 j h
    · obtain rfl : j = i3 := by omega
      exact AllEqZ.1 (Decidable.of_not_not h6)
  · rename_i a1 a2 a3 q1 q2 q3 q4 q5
    have hzz : f.disk.zones = g.disk.zones := ext_nth e3 fun j hj => hz3 j (by omega)
    have hsp : f.spares = g.spares := by omega
    ((try dsimp only [thenA, inBlockA]); refine FnPost.many (.inr rfl) (RetOK.hv rfl RetOK.nil) ?_; (try dsimp only [tup]))
    refine congrArg AV.bool ?_
    refine decide_eq_decide.2 (AllEqS.trans ?_)
    have q6 := AllEqS.1 q5
    constructor
    · intro q7
      obtain ⟨⟨_, _, _, _, _, _, _⟩, _, _, _⟩ := f
      obtain ⟨⟨_, _, _, _, _, _, _⟩, _, _, _⟩ := g
      simp only at *
      simp only [hp, hg, hzz, hsp, q1, q2, q3, q4, q6, q7]
    · rintro rfl; rfl
  · rename_i q5; ((try dsimp only [thenA, inBlockA]); refine FnPost.many (.inr rfl) (RetOK.hv rfl RetOK.nil) ?_; (try dsimp only [tup])); rw [decide_eq_false]; rintro rfl; exact q5 (AllEqS.2 rfl)
  all_goals (rename_i q5; ((try dsimp only [thenA, inBlockA]); refine FnPost.many (.inr rfl) (RetOK.hv rfl RetOK.nil) ?_; (try dsimp only [tup])); rw [decide_eq_false]; rintro rfl; exact q5 rfl)
end Go.Proofs.YtfbjoamdkieamaaGreat.AM
end

section
set_option linter.unusedSimpArgs false
set_option linter.unusedVariables false
set_option maxHeartbeats 8000000
namespace Go.Proofs.YtfbjoamdkieamaaGreat.AM
open Go Go.Proofs

theorem sameInts_spec (c c' : Bool) (a b : List Int) : PSpec env 12 [.list c 1 (a.map (.int .i64)), .list c' 1 (b.map (.int .i64))] (.bool (decide (a = b))) := by
  refine Spec.intro (nt := _) (rs := [_]) Tryz.func12 rfl rfl rfl rfl rfl [] (fun _ h => absurd rfl h) fun X => ?_
  refine GoC.bnd 0 rfl fun hb => ?_
  repeat' (first | refine GoC.seq ?_ | refine GoC.block ?_ | refine GoC.region rfl ?_ | refine GoC.skip ?_ | refine GoC.ret ?_ | (refine GoC.cond_d rfl ?_ ?_ <;> intro _ <;> try contradiction) | refine GoOps.nil ?_ | refine GoOps.a rfl ?_ | refine GoOps.p (OpL.len rfl rfl) ?_)
  · ((try dsimp only [thenA, inBlockA]); refine FnPost.many (.inr rfl) (RetOK.hv rfl RetOK.nil) ?_; (try dsimp only [tup]))
    rw [decide_eq_false]
    rintro rfl
    omega
  refine GoC.loop (G := Nat) (fun i => ⟨ofL .junk [(0, .list c 1 (a.map (.int .i64))), (1, .list c' 1 (b.map (.int .i64))), (5, .int .i64 i)], ofL .free [], []⟩)
    (fun i => i ≤ a.length ∧ ∀ j, j < i → a.getD j default = b.getD j default) (fun i => a.length - i) 0 ⟨Nat.zero_le _, fun j h => absurd h (Nat.not_lt_zero j)⟩ (by (refine AS.sub.mk' _ _ (lk []) rfl rfl ?_ ?_ <;> repeat' (first | exact True.intro | rfl | exact Wk.refl _ | refine And.intro ?_ ?_))) ?_
  rintro i ⟨hi, hz⟩ R hR
  try dsimp only at *
  repeat' (first | refine GoC.seq ?_ | refine GoC.block ?_ | refine GoC.region rfl ?_ | refine GoC.draw env_mixed ?_ | refine GoC.skip ?_ | refine GoC.exit ?_ | refine GoC.ret ?_ | (refine GoC.cond_d rfl ?_ ?_ <;> intro _ <;> try contradiction) | refine GoOps.nil ?_ | refine GoD.done rfl rfl (by kernel_rfl) ?_ | refine GoOps.a rfl ?_ | refine GoD.a rfl ?_ | refine GoOps.p (OpL.len rfl rfl) ?_ | refine GoD.p (OpL.idx rfl rfl (by with_reducible exact rfl) rfl rfl rfl rfl (by (first | assumption | omega))) ?_ | refine GoOps.p (OpL.add rfl rfl (by (first | assumption | omega))) ?_)
  · ((try dsimp only [thenA, inBlockA]); refine FnPost.many (.inr rfl) (RetOK.hv rfl RetOK.nil) ?_; (try dsimp only [tup]))
    rw [decide_eq_false]
    rintro rfl
    simp_all
  · refine hR (i + 1) _ ⟨by omega, fun j hj => ?_⟩ (by omega) (by (refine AS.sub.mk' _ _ (lk []) rfl rfl ?_ ?_ <;> repeat' (first | exact True.intro | rfl | exact Wk.refl _ | refine And.intro ?_ ?_)))
    by_cases h : j < i
    · exact hz j h
    · obtain rfl : j = i := by omega
      rename_i h1 h2
      exact Decidable.of_not_not h2
  · ((try dsimp only [thenA, inBlockA]); refine FnPost.many (.inr rfl) (RetOK.hv rfl RetOK.nil) ?_; (try dsimp only [tup]))
    rw [decide_eq_true]
    refine List.ext_getElem (by omega) fun j h1 h2 => ?_
    have := hz j (by omega)
    rwa [gd h1, gd h2] at this

def far1 (d : Disk) : Prop := 20 < d.zones.length ∨ (d.ok ∧ (200 < d.count ∨ 120 < d.turn))
instance (d : Disk) : Decidable (far1 d) := by unfold far1; infer_instance
theorem Far01_spec (d : Disk) : PSpec env 45 [d.av] (.bool (decide (far1 d))) := by
  have hc := Check01_spec d
  by_cases hd : d.ok
  · rw [if_pos hd] at hc
    have hn := Count_spec d hd.good
    refine Spec.intro (nt := _) (rs := [_]) Tryz.func45 rfl rfl rfl rfl rfl [] (fun _ h => absurd rfl h) fun X => ?_
    repeat' (first | refine GoC.seq ?_ | refine GoC.region rfl ?_ | refine GoC.ret ?_ | refine GoOps.nil ?_ | refine GoOps.a rfl ?_ | refine GoOps.u rfl rfl rfl rfl ?_ | refine GoOps.gs rfl rfl rfl rfl ?_ | refine GoOps.gj rfl rfl rfl ?_ | refine GoOps.p (OpL.len rfl rfl) ?_ | refine GoOps.m (OpL.boxw (by rfl) rfl rfl rfl rfl) ?_ | refine GoOps.p (OpL.call rfl rfl (hc) rfl rfl) ?_ | refine GoOps.p (OpL.call rfl rfl (hn) rfl rfl) ?_ | (refine GoOps.sd rfl rfl ?_ ?_ <;> intro _ <;> try contradiction))
    all_goals (((try dsimp only [thenA, inBlockA]); refine FnPost.many (.inr rfl) (RetOK.hv rfl RetOK.nil) ?_; (try dsimp only [tup])); congr 1; rw [Bool.eq_iff_iff]; simp [far1, hd]; try omega)
  · rw [if_neg hd] at hc
    refine Spec.intro (nt := _) (rs := [_]) Tryz.func45 rfl rfl rfl rfl rfl [] (fun _ h => absurd rfl h) fun X => ?_
    repeat' (first | refine GoC.seq ?_ | refine GoC.region rfl ?_ | refine GoC.ret ?_ | refine GoOps.nil ?_ | refine GoOps.a rfl ?_ | refine GoOps.u rfl rfl rfl rfl ?_ | refine GoOps.gs rfl rfl rfl rfl ?_ | refine GoOps.gj rfl rfl rfl ?_ | refine GoOps.p (OpL.len rfl rfl) ?_ | refine GoOps.m (OpL.boxw (by rfl) rfl rfl rfl rfl) ?_ | refine GoOps.p (OpL.call rfl rfl (hc) rfl rfl) ?_ | (refine GoOps.sd rfl rfl ?_ ?_ <;> intro _ <;> try contradiction))
    all_goals (((try dsimp only [thenA, inBlockA]); refine FnPost.many (.inr rfl) (RetOK.hv rfl RetOK.nil) ?_; (try dsimp only [tup])); congr 1; rw [Bool.eq_iff_iff]; simp [far1, hd]; try omega)

def far3 (f : Format) : Prop := far1 f.disk ∨ 100 < f.primary.length ∨ 60 < f.grown.length
instance (f : Format) : Decidable (far3 f) := by unfold far3; infer_instance
theorem Far03_spec (f : Format) : PSpec env 20 [f.av] (.bool (decide (far3 f))) := by
  have hc := Far01_spec f.disk
  refine Spec.intro (nt := _) (rs := [_]) Tryz.func20 rfl rfl rfl rfl rfl [] (fun _ h => absurd rfl h) fun X => ?_
  repeat' (first | refine GoC.seq ?_ | refine GoC.region rfl ?_ | refine GoC.ret ?_ | refine GoOps.nil ?_ | refine GoOps.a rfl ?_ | refine GoOps.u rfl rfl rfl rfl ?_ | refine GoOps.gs rfl rfl rfl rfl ?_ | refine GoOps.p (OpL.len rfl rfl) ?_ | refine GoOps.m (OpL.boxw (by rfl) rfl rfl rfl rfl) ?_ | refine GoOps.p (OpL.call rfl rfl (hc) rfl rfl) ?_ | (refine GoOps.sd rfl rfl ?_ ?_ <;> intro _ <;> try contradiction))
  all_goals (((try dsimp only [thenA, inBlockA]); refine FnPost.many (.inr rfl) (RetOK.hv rfl RetOK.nil) ?_; (try dsimp only [tup])); congr 1; rw [Bool.eq_iff_iff]; simp [far3, *]; try omega)

def readyP (f : Format) : Prop := ¬ far3 f ∧ f.status = 0
instance (f : Format) : Decidable (readyP f) := by unfold readyP; infer_instance
theorem ready_spec (f : Format) : PSpec env 6 [f.av] (.bool (decide (readyP f))) := by
  have hc := Far03_spec f
  have hs := Check03_spec f
  refine Spec.intro (nt := _) (rs := [_]) Tryz.func6 rfl rfl rfl rfl rfl [] (fun _ h => absurd rfl h) fun X => ?_
  repeat' (first | refine GoC.seq ?_ | refine GoC.region rfl ?_ | refine GoC.ret ?_ | refine GoOps.nil ?_ | refine GoOps.a rfl ?_ | refine GoOps.u rfl rfl rfl rfl ?_ | refine GoOps.gs rfl rfl rfl rfl ?_ | refine GoOps.m (OpL.boxw (by rfl) rfl rfl rfl rfl) ?_ | refine GoOps.p (OpL.call rfl rfl (hc) rfl rfl) ?_ | refine GoOps.p (OpL.call rfl rfl (hs) rfl rfl) ?_ | (refine GoOps.sn rfl rfl ?_ ?_ <;> intro _ <;> try contradiction))
  all_goals (((try dsimp only [thenA, inBlockA]); refine FnPost.many (.inr rfl) (RetOK.hv rfl RetOK.nil) ?_; (try dsimp only [tup])); congr 1; rw [Bool.eq_iff_iff]; simp [readyP, *]; try omega)

def exDisk : Disk := ⟨2, 60, [⟨2, 6⟩, ⟨1, 5⟩], 10, 25, ⟨4, 12⟩, ⟨20, 30⟩⟩
def exFormat : Format := ⟨exDisk, 2, [3, 20], [⟨1, 5, 4⟩, ⟨2, 9, 22⟩, ⟨3, 7, 33⟩, ⟨4, 8, 23⟩, ⟨5, 6, 30⟩]⟩
theorem span_spec (a b : Int) : PSpec env 71 [.int .i64 a, .int .i64 b] (.agg [.int .i64 a, .int .i64 b]) := by
  refine Spec.intro (nt := _) (rs := [_]) Tryz.func71 rfl rfl rfl rfl rfl [] (fun _ h => absurd rfl h) fun X => ?_
  repeat' (first | refine GoC.seq ?_ | refine GoC.region rfl ?_ | refine GoC.ret ?_ | refine GoOps.nil ?_ | refine GoOps.a rfl ?_ | refine GoOps.b rfl ?_ | refine GoOps.p (OpL.build rfl) ?_ | refine GoOps.n (OpL.st1 rfl) ?_)
  refine FnPost.many (.inr rfl) (RetOK.cellF rfl rfl rfl rfl rfl RetOK.nil) rfl
theorem exDisk_spec : PSpec env 53 [] exDisk.av := by
  have h1 := span_spec 4 12
  have h2 := span_spec 20 30
  refine Spec.intro (nt := _) (rs := [_]) Tryz.func53 rfl rfl rfl rfl rfl [] (fun _ h => absurd rfl h) fun X => ?_
  repeat' (first | refine GoC.seq ?_ | refine GoC.region rfl ?_ | refine GoC.ret ?_ | refine GoOps.nil ?_ | refine GoOps.b rfl ?_ | refine GoOps.p (OpL.build rfl) ?_ | refine GoOps.m (OpL.row rfl) ?_ | refine GoOps.n (OpL.st1 rfl) ?_ | refine GoOps.p (OpL.call rfl rfl (h1) rfl rfl) ?_ | refine GoOps.p (OpL.call rfl rfl (h2) rfl rfl) ?_)
  refine FnPost.frz [3] [] [(0, .arr 26 9 [exDisk.av])] trivial ?_ ?_
  · repeat' (first | exact ⟨⟨by decide, _, rfl, ElF.cons (by repeat' (first | exact Fz.same _ | exact Fz.mp rfl rfl (fun _ => rfl) (by (first | rfl | omega | (simp only [List.length_take, List.length_drop, List.length_map, List.length_append, List.length_cons, List.length_nil] <;> omega))) | refine Fz.agg1 ?_ ?_)) (ElF.same _)⟩, trivial⟩)
  refine FnPost.by (.inr rfl) (AS.sub.refl _) (RetOK.cellF rfl rfl rfl rfl rfl RetOK.nil) ?_
  rfl
theorem exFormat_spec : PSpec env 30 [] exFormat.av := by
  have h1 := exDisk_spec
  refine Spec.intro (nt := _) (rs := [_]) Tryz.func30 rfl rfl rfl rfl rfl [] (fun _ h => absurd rfl h) fun X => ?_
  repeat' (first | refine GoC.seq ?_ | refine GoC.region rfl ?_ | refine GoC.ret ?_ | refine GoOps.nil ?_ | refine GoOps.b rfl ?_ | refine GoOps.p (OpL.build rfl) ?_ | refine GoOps.m (OpL.row rfl) ?_ | refine GoOps.n (OpL.st1 rfl) ?_ | refine GoOps.p (OpL.call rfl rfl (h1) rfl rfl) ?_)
  refine FnPost.frz [2, 8] [] [(0, .arr 30 12 [exFormat.av])] trivial ?_ ?_
  · repeat' (first | exact ⟨⟨by decide, _, rfl, ElF.cons (by repeat' (first | exact Fz.same _ | exact Fz.mp rfl rfl (fun _ => rfl) (by (first | rfl | omega | (simp only [List.length_take, List.length_drop, List.length_map, List.length_append, List.length_cons, List.length_nil] <;> omega))) | refine Fz.agg1 ?_ ?_)) (ElF.same _)⟩, trivial⟩)
  refine FnPost.by (.inr rfl) (AS.sub.refl _) (RetOK.cellF rfl rfl rfl rfl rfl RetOK.nil) ?_
  rfl
end Go.Proofs.YtfbjoamdkieamaaGreat.AM
end

section
set_option linter.unusedSimpArgs false
set_option linter.unusedVariables false
namespace Go.Proofs.YtfbjoamdkieamaaGreat.AM
open Go Go.ChangeShapes Go.WideShapes Go.ChangeAt Go.RowKit

/-- All that lies in a world, to be read alone. -/
def memW (W : World) : Mem := ⟨fun b => W.heap[b]?, fun _ => none⟩
theorem memW_noat (W : World) : (memW W).noat = memW W := rfl

/-- What is read at the type t, of w cells, is the image of some a. -/
structure Rd (P : Program) (t w : Nat) (α : Type) (f : α → List AV) : Prop where
  out : ∀ {H : Type} (enc : TypeId × Value → H) (W : World) (base : Nat) (sp : Nat → Bool) (held : Bool) (fuel : Nat) (cs : List Value) (x : DataW H × List MemPlace),
    DataW.trod enc P W base sp held fuel t cs = some x → cs.length = w ∧ ∃ a : α, RS (memW W) (f a) cs

theorem Rd.map {P : Program} {t w : Nat} {α β : Type} {f : α → List AV} {g : β → List AV} (h : Rd P t w α f) (φ : α → β) (he : ∀ a, g (φ a) = f a) : Rd P t w β g :=
  ⟨fun enc W base sp held fuel cs x hx => by
    obtain ⟨h1, a, h2⟩ := h.out enc W base sp held fuel cs x hx
    exact ⟨h1, φ a, by rw [he]; exact h2⟩⟩

theorem Rd.int {P : Program} {t : Nat} {k : IntKind} (ht : P.underlying t = some (.int k)) : Rd P t 1 Int (fun n => [.int k n]) :=
  ⟨fun enc W base sp held fuel cs x hx => by
    obtain ⟨n, rfl, _⟩ := DataW.trod_int ht hx
    exact ⟨rfl, n, _, [], rfl, rfl, rfl⟩⟩
theorem Rd.bool {P : Program} {t : Nat} (ht : P.underlying t = some .bool) : Rd P t 1 Bool (fun b => [.bool b]) :=
  ⟨fun enc W base sp held fuel cs x hx => by
    obtain ⟨b, rfl, _⟩ := DataW.trod_bool ht hx
    exact ⟨rfl, b, _, [], rfl, rfl, rfl⟩⟩

/-- One element's value out of its cells. -/
def Cel {α : Type} (f : α → List AV) (g : α → AV) : Prop := ∀ (m : Mem) (a : α) (cs : List Value), RS m (f a) cs → ∃ u : Value, R m (g a) u ∧ u.cells.toList = cs
theorem Cel.agg {α : Type} {f : α → List AV} : Cel f (fun a => .agg (f a)) := fun m a cs h => ⟨.agg cs.toArray, ⟨cs, rfl, h⟩, rfl⟩
theorem Cel.int {k : IntKind} : Cel (fun n => [AV.int k n]) (AV.int k) := fun m a cs h => by
  obtain ⟨v, vs, rfl, h1, rfl⟩ := h
  exact ⟨v, h1, by rw [show v = .int k a from h1]; rfl⟩
theorem Cel.bool : Cel (fun n => [AV.bool n]) AV.bool := fun m a cs h => by
  obtain ⟨v, vs, rfl, h1, rfl⟩ := h
  exact ⟨v, h1, by rw [show v = .bool a from h1]; rfl⟩
theorem Cel.list {α : Type} {c : Bool} {w : Nat} {g : α → AV} : Cel (fun l : List α => [AV.list c w (l.map g)]) (fun l => AV.list c w (l.map g)) := fun m a cs h => by
  obtain ⟨v, vs, rfl, h1, rfl⟩ := h
  refine ⟨v, h1, ?_⟩
  obtain ⟨ad, cap, rfl, _⟩ := h1
  rfl

theorem cell_block {W : World} {a : Addr} {v : Value} (h : W.cell? a = some v) : ∃ cs T fr, W.heap[a.block]? = some (.cells cs T fr) ∧ a.spot = none ∧ cs[a.off]? = some v := by
  unfold World.cell? at h
  split at h
  · rename_i cs T fr h1
    cases hs : a.spot with
    | none => rw [hs] at h; exact ⟨_, _, _, h1, rfl, by simpa using h⟩
    | some q => rw [hs] at h; simp at h
  · simp at h
theorem exists_list {α : Type} {p : Nat → α → Prop} : ∀ n, (∀ i, i < n → ∃ x, p i x) → ∃ l : List α, l.length = n ∧ ∀ (i : Nat) (h : i < l.length), p i l[i]
  | 0, _ => ⟨[], rfl, fun i h => absurd h (Nat.not_lt_zero i)⟩
  | n + 1, h => by
    obtain ⟨l, h1, h2⟩ := exists_list n fun i hi => h i (by omega)
    obtain ⟨x, hx⟩ := h n (by omega)
    refine ⟨l ++ [x], by simp [h1], fun i hi => ?_⟩
    by_cases hl : i < l.length
    · rw [List.getElem_append_left hl]; exact h2 i hl
    · have : i = n := by simp at hi; omega
      subst this
      rw [List.getElem_append_right (by omega)]
      simpa [h1] using hx

theorem Rd.slice {P : Program} {t e w : Nat} {α : Type} {f : α → List AV} {g : α → AV} (hr : Rd P e w α f) (hc : Cel f g) (ht : P.underlying t = some (.slice e)) (hw : P.cellsOf e = w) (hpos : Nat.blt 0 w = true) : Rd P t 1 (List α) (fun l => [.list false w (l.map g)]) := by
  have hpos := Nat.le_of_ble_eq_true hpos
  refine ⟨fun enc W base sp held fuel cs x hx => ?_⟩
  rcases Deep.open_slice ht hx with ⟨rfl, _⟩ | ⟨a, len, cap, m, n, D, Pl, rfl, hb, hl, hm, hmm, _, hel⟩
  · exact ⟨rfl, [], _, [], rfl, ⟨none, 0, rfl, Nat.le_refl _, Nat.zero_le _, fun h => by simp at h, fun h => absurd rfl h⟩, rfl⟩
  · have hlm : len ≤ m := by rw [hmm]; split <;> omega
    rw [hw] at hel
    obtain ⟨l, h1, h2⟩ := exists_list (α := α) (p := fun i z => ∃ cs', W.cells? base (a.add (i * w)) w = some cs' ∧ RS (memW W) (f z) cs') len fun i hi => by
      obtain ⟨cs', h3, h4⟩ := hel i (by omega)
      obtain ⟨h5, z, h6⟩ := hr.out enc W base sp held n cs' _ h4
      exact ⟨z, cs', h3, h6⟩
    subst h1
    refine ⟨rfl, l, _, [], rfl, ⟨some a, cap, by simp, by simpa using hl, hm, fun h => by simp at h, fun hne => ?_⟩, rfl⟩
    have hl0 : 0 < l.length := by
      cases l with
      | nil => simp at hne
      | cons _ _ => simp
    obtain ⟨cs0, h3, _⟩ := h2 0 hl0
    obtain ⟨_, h4, h5⟩ := World.cells?_some h3
    have h6 := h5 0 hpos
    have h7 : ∃ v, cs0[0]? = some v := ⟨cs0[0]'(by omega), List.getElem?_eq_getElem (by omega)⟩
    obtain ⟨v, h7⟩ := h7
    rw [h7] at h6
    simp only [Nat.zero_mul, Addr.add, if_true] at h6
    obtain ⟨cs, T, fr, h8, h9, _⟩ := cell_block h6
    refine ⟨a.block, a.off, cs, T, fr, by cases a; simp_all, h8, ?_⟩
    rw [RRow_iff]
    intro i hi
    rw [List.length_map] at hi
    obtain ⟨cs', h10, h11⟩ := h2 i hi
    obtain ⟨_, h12, h13⟩ := World.cells?_some h10
    obtain ⟨u, h14, h15⟩ := hc _ _ _ h11
    have hsz : u.cells.size = w := by rw [← Array.length_toList, h15, h12]
    refine ⟨u, by rw [memW_noat]; simpa [List.getD_eq_getElem?_getD, hi] using h14, hsz, fun j hj => ?_⟩
    have h16 := h13 j hj
    rw [List.getElem?_eq_getElem (by omega)] at h16
    obtain ⟨cs2, T2, fr2, h17, h18, h19⟩ := cell_block h16
    have hblk : ((a.add (i * w)).add j).block = a.block := by unfold Addr.add; split <;> split <;> rfl
    have hoff : ((a.add (i * w)).add j).off = a.off + i * w + j := by
      unfold Addr.add
      split <;> split <;> simp_all
    rw [hblk, h8] at h17
    cases h17
    rw [hoff] at h19
    rw [h19, ← Array.getElem?_toList (xs := u.cells), h15, List.getElem?_eq_getElem (by omega)]

/-- Fields of a struct, one behind the other. -/
structure Rds (P : Program) (fs : List Field) (o w : Nat) (α : Type) (f : α → List AV) : Prop where
  out : ∀ {H : Type} (enc : TypeId × Value → H) (W : World) (base : Nat) (sp : Nat → Bool) (held : Bool) (fuel : Nat) (cs : List Value), cs.length = o + w →
    (∀ fd ∈ fs, ∃ x, DataW.trod enc P W base sp held fuel fd.type ((cs.drop fd.offset).take (P.cellsOf fd.type)) = some x) → ∃ a : α, RS (memW W) (f a) (cs.drop o)
theorem Rds.nil {P : Program} {o : Nat} : Rds P [] o 0 Unit (fun _ => []) :=
  ⟨fun enc W base sp held fuel cs hl _ => ⟨(), List.drop_eq_nil_of_le (by omega)⟩⟩
theorem RS_app {m : Mem} : ∀ {xs ys : List AV} {vs us : List Value}, RS m xs vs → RS m ys us → RS m (xs ++ ys) (vs ++ us) := fun h h' => RS_append h h'
theorem Rds.cons {P : Program} {fd : Field} {fs : List Field} {o w w' : Nat} {α β : Type} {f : α → List AV} {g : β → List AV} (ho : fd.offset = o) (hw : P.cellsOf fd.type = w) (h : Rd P fd.type w α f) (h' : Rds P fs (o + w) w' β g) :
    Rds P (fd :: fs) o (w + w') (α × β) (fun p => f p.1 ++ g p.2) :=
  ⟨fun enc W base sp held fuel cs hl hx => by
    obtain ⟨b, hb⟩ := h'.out enc W base sp held fuel cs (by omega) fun d hd => hx d (by simp [hd])
    obtain ⟨x, h1⟩ := hx fd (by simp)
    rw [ho, hw] at h1
    obtain ⟨h2, a, ha⟩ := h.out enc W base sp held fuel _ _ h1
    refine ⟨(a, b), ?_⟩
    have e : cs.drop o = (cs.drop o).take w ++ cs.drop (o + w) := by
      rw [← List.drop_drop, List.take_append_drop]
    rw [e]
    exact RS_app ha hb⟩
theorem Rd.struct {P : Program} {t w : Nat} {fs : Array Field} {α : Type} {f : α → List AV} (ht : P.underlying t = some (.struct fs)) (hw : P.cellsOf t = w) (h : Rds P fs.toList 0 w α f) : Rd P t w α f :=
  ⟨fun enc W base sp held fuel cs x hx => by
    obtain ⟨xs, n, rfl, rfl, h1, h2, h3⟩ := DataW.trod_struct ht hx
    rw [hw] at h1
    refine ⟨h1, ?_⟩
    obtain ⟨a, ha⟩ := h.out enc W base sp held n cs (by omega) fun fd hfd => by
      obtain ⟨i, hi, rfl⟩ := List.getElem_of_mem hfd
      have := h3 i (fs.toList[i]) (by simp at hi; simp [hi])
      rw [this]
      simp at hi
      exact ⟨xs[i]'(by omega), List.getElem?_eq_getElem (by omega)⟩
    exact ⟨a, by simpa using ha⟩⟩

/-- An argument that is a struct. -/
theorem Rd.arg {P : Program} {t w : Nat} {fs : Array Field} {α : Type} {f : α → List AV} (h : Rd P t w α f) (ht : P.underlying t = some (.struct fs)) {H : Type} {enc : TypeId × Value → H} {W : World} {r : Reach} {b0 base : Nat} {sp : Nat → Bool} {held : Bool} {v : Value} {d : DataW H} {ps : List MemPlace}
    (hval : Value.okWide P W r b0 t v) (hd : DataW.Trod enc P W base sp held t v d ps) : ∃ a : α, R (memW W) (.agg (f a)) v := by
  unfold Value.okWide at hval
  rw [ht] at hval
  obtain ⟨cs, rfl, _⟩ := hval
  obtain ⟨fuel, hx⟩ := hd
  obtain ⟨_, a, ha⟩ := h.out enc W base sp held fuel _ _ hx
  exact ⟨a, cs.toList, by simp, ha⟩

/-! ### Behind the call -/
theorem post_kept {H : Type} {enc : TypeId × Value → H} {P : Program} {f : Func} {s : ChangeSpec} {apart fresh handsOn again : Bool} {W W' : World} {args : Array Value} {v : Value} {ds gs : List (DataW H)} {before : List MemPlace}
    (hlaid : laidOutB P = true) (hread : (f.params.toList.all fun t => P.readableRec t && decide (t < P.types.size)) = true) (hvars : s.vars = [])
    (hW : DataW.Whole enc P f.params.toList s.vars apart W args.toList ds gs before)
    (hres : ∀ (b : Nat) (sp : Nat → Bool) (hd : Bool), DataW.TrodAll enc P W' b sp hd f.resultTypes.toList (v.resultList f.resultTypes.size) (s.fn H (ds ++ gs)).results [])
    (hargs : gs = [] → (s.fn H (ds ++ gs)).args = ds) (hvs : (s.fn H (ds ++ gs)).vars = []) (hb : Below W.heap.size W W')
    (hok : ∀ (j : Nat) (t : TypeId) (r : Value), f.resultTypes[j]? = some t → (v.resultList f.resultTypes.size)[j]? = some r → Value.okWide P W' .any 0 t r) :
    s.post enc P f apart fresh handsOn again W args v W' := by
  have hold : ∀ p ∈ before, p.block < W.heap.size := hW.lt
  have hW0 := hW
  obtain ⟨p, q, hA, hV, rfl, hfz, hnd⟩ := hW
  rw [hvars] at hV
  have hV0 : gs = [] ∧ q = [] := by
    cases gs with
    | nil => exact ⟨rfl, hV⟩
    | cons _ _ => exact hV.elim
  obtain ⟨rfl, rfl⟩ := hV0
  rw [List.append_nil] at hold hfz hnd hW0
  have hA' : ∀ sp : Nat → Bool, (∀ x ∈ p, sp x.block = true) → DataW.TrodAll enc P W' 0 sp true f.params.toList args.toList ds p := by
    intro sp
    have key : ∀ (ts : List TypeId) (vs : List Value) (ds : List (DataW H)) (p : List MemPlace), (ts.all fun t => P.readableRec t && decide (t < P.types.size)) = true → (∀ x ∈ p, x.block < W.heap.size) → (∀ x ∈ p, sp x.block = true) →
        DataW.TrodAll enc P W 0 (fun _ => true) true ts vs ds p → DataW.TrodAll enc P W' 0 sp true ts vs ds p := by
      intro ts
      induction ts with
      | nil => intro vs ds p _ _ _ h; cases vs <;> cases ds <;> exact h
      | cons t ts ih =>
        intro vs ds p hr hlt hsp h
        cases vs with
        | nil => exact h.elim
        | cons v vs =>
          cases ds with
          | nil => exact h.elim
          | cons d ds =>
            obtain ⟨p1, p2, h1, h2, rfl⟩ := h
            simp only [List.all_cons, Bool.and_eq_true, decide_eq_true_eq] at hr
            refine ⟨p1, p2, WideElems.Trod_stays hlaid hr.1.1 hr.1.2 h1 (fun x hx => hb.same (hlt x (by simp [hx]))) (fun x hx => hsp x (by simp [hx])), ih _ _ _ hr.2 (fun x hx => hlt x (by simp [hx])) (fun x hx => hsp x (by simp [hx])) h2, rfl⟩
    exact fun hsp => key _ _ _ _ hread hold hsp hA
  have e1 := hargs rfl
  have hA2 : ∀ sp : Nat → Bool, (∀ x ∈ p, sp x.block = true) → DataW.TrodAll enc P W' 0 sp true f.params.toList args.toList (s.fn H (ds ++ [])).args p := by rw [e1]; exact hA'
  have hV2 : DataW.TrodVars enc P W' (fun _ => true) s.vars (s.fn H (ds ++ [])).vars [] := by rw [hvs, hvars]; rfl
  refine ⟨ds, [], p, [], p, [], hW0, ?_, ?_, ?_, World.keptBut_mono (fun x hx => ⟨hx, .inr (by simpa using hx)⟩) (hb.frame (· ∈ p)), fun _ => ?_⟩
  · exact hres _ _ _
  · exact hA2 _ (fun x hx => by simpa using hold x hx)
  · rw [hvs, hvars]; rfl
  · refine ⟨hok, _, _, ([] ++ p) ++ [], ⟨[] ++ p, [], trodAll_append (hA2 _ (fun _ _ => rfl)) (hres _ _ _), hV2, rfl, ?_, ?_⟩, ?_⟩
    · intro b off hp
      have hp' : MemPlace.cell b off ∈ p := by simpa using hp
      rw [hb.frozen (p := ⟨b, off, none⟩) (hold _ hp')]
      exact hfz b off hp'
    · intro ha
      simpa using hnd ha
    · intro x hx _
      simpa using hx

/-- What a walk of a function of the seat says of a call in any world. -/
theorem Spec.calls {E : Env} {f : FuncId} {args : List AV} {Q : AV → (Nat → HO) → Prop} (h : Spec E f args (fun _ => .free) Q) {W : World} {vs : List Value} (hv : RS (memW W) args vs) :
    Calls E.P f vs.toArray W fun e W' => ∃ v r H' m', e = .returned v ∧ Q r H' ∧ R m' r v ∧ Below W.heap.size W W' := by
  have hM : MemOK (memW W).ro W (blocksOf (memW W) fun _ => .free) (memW W) (fun _ => .free) W :=
    { os := rfl, tape := rfl, output := rfl, size := Nat.le_refl _, block := fun _ _ _ => rfl, ro := fun _ _ h => h, told := fun _ _ h => .inl h, obj := fun _ => rfl,
      mine := fun _ _ h => by simp [HO.live] at h, apart := fun _ _ _ _ _ h => by simp [HO.live] at h }
  refine callsIn_wide.1 ((h.run 0 (memW W) W vs hM hv).mono fun e W' ⟨v, r, H', m', h1, h2, h3, h4, h5⟩ => ⟨v, r, H', m', h1, h2, h5, h4.os, h4.tape, h4.output, h4.size, fun k hk => h4.block k hk ?_⟩)
  rintro ⟨id, L, h6, _⟩
  simp [HO.live] at h6
end Go.Proofs.YtfbjoamdkieamaaGreat.AM
end

section
set_option linter.unusedSimpArgs false
set_option linter.unusedVariables false
namespace Go.Proofs.YtfbjoamdkieamaaGreat.AM
open Go Go.ChangeShapes Go.WideShapes Go.ChangeAt Go.RowKit

structure Cut where
  cut : Int
  turn : Int
  block : Int
  deriving DecidableEq, Inhabited
def Cut.av (c : Cut) : AV := .agg [.int .i64 c.cut, .int .i64 c.turn, .int .i64 c.block]
def Zone.cells_ (z : Zone) : List AV := [.int .i64 z.cyl, .int .i64 z.sec]
def Defect.cells_ (d : Defect) : List AV := [.int .i64 d.id, .int .i64 d.stamp, .int .i64 d.sector]
def Disk.cells_ (d : Disk) : List AV := [.int .i64 d.heads, .int .i64 d.turn, .list false 2 (d.zones.map Zone.av), .int .i64 d.headSkew, .int .i64 d.cylSkew, .int .i64 d.hs.low, .int .i64 d.hs.high, .int .i64 d.cs.low, .int .i64 d.cs.high]
def Format.cells_ (f : Format) : List AV := f.disk.cells_ ++ [.int .i64 f.spares, .list false 1 (f.primary.map (.int .i64)), .list false 3 (f.grown.map Defect.av)]
def Cut.cells_ (c : Cut) : List AV := [.int .i64 c.cut, .int .i64 c.turn, .int .i64 c.block]

abbrev rInt : Rd Tryz.prog 3 1 Int (fun n => [.int .i64 n]) := Rd.int Tryz.underlying3
theorem rZone : Rd Tryz.prog 75 2 Zone Zone.cells_ :=
  (Rd.struct Tryz.underlying75 (by kernel_rfl) (Rds.cons rfl (by kernel_rfl) rInt (Rds.cons rfl (by kernel_rfl) rInt Rds.nil))).map (fun p => ⟨p.1, p.2.1⟩) fun _ => rfl
theorem rDefect : Rd Tryz.prog 36 3 Defect Defect.cells_ :=
  (Rd.struct Tryz.underlying36 (by kernel_rfl) (Rds.cons rfl (by kernel_rfl) rInt (Rds.cons rfl (by kernel_rfl) rInt (Rds.cons rfl (by kernel_rfl) rInt Rds.nil)))).map (fun p => ⟨p.1, p.2.1, p.2.2.1⟩) fun _ => rfl
theorem rSpan : Rd Tryz.prog 24 2 Span (fun s => [.int .i64 s.low, .int .i64 s.high]) :=
  (Rd.struct Tryz.underlying24 (by kernel_rfl) (Rds.cons rfl (by kernel_rfl) rInt (Rds.cons rfl (by kernel_rfl) rInt Rds.nil))).map (fun p => ⟨p.1, p.2.1⟩) fun _ => rfl
theorem rCut : Rd Tryz.prog 32 3 Cut Cut.cells_ :=
  (Rd.struct Tryz.underlying32 (by kernel_rfl) (Rds.cons rfl (by kernel_rfl) rInt (Rds.cons rfl (by kernel_rfl) rInt (Rds.cons rfl (by kernel_rfl) rInt Rds.nil)))).map (fun p => ⟨p.1, p.2.1, p.2.2.1⟩) fun _ => rfl
theorem rZones : Rd Tryz.prog 22 1 (List Zone) (fun l => [.list false 2 (l.map Zone.av)]) := Rd.slice rZone Cel.agg Tryz.underlying22 (by kernel_rfl) rfl
theorem rInts : Rd Tryz.prog 27 1 (List Int) (fun l => [.list false 1 (l.map (.int .i64))]) := Rd.slice rInt Cel.int Tryz.underlying27 (by kernel_rfl) rfl
theorem rDefects : Rd Tryz.prog 28 1 (List Defect) (fun l => [.list false 3 (l.map Defect.av)]) := Rd.slice rDefect Cel.agg Tryz.underlying28 (by kernel_rfl) rfl
theorem rDisk : Rd Tryz.prog 26 9 Disk Disk.cells_ :=
  (Rd.struct Tryz.underlying26 (by kernel_rfl) (Rds.cons rfl (by kernel_rfl) rInt (Rds.cons rfl (by kernel_rfl) rInt (Rds.cons rfl (by kernel_rfl) rZones (Rds.cons rfl (by kernel_rfl) rInt (Rds.cons rfl (by kernel_rfl) rInt
    (Rds.cons rfl (by kernel_rfl) rSpan (Rds.cons rfl (by kernel_rfl) rSpan Rds.nil)))))))).map (fun p => ⟨p.1, p.2.1, p.2.2.1, p.2.2.2.1, p.2.2.2.2.1, p.2.2.2.2.2.1, p.2.2.2.2.2.2.1⟩) fun _ => rfl
theorem rFormat : Rd Tryz.prog 30 12 Format Format.cells_ :=
  (Rd.struct Tryz.underlying30 (by kernel_rfl) (Rds.cons rfl (by kernel_rfl) rDisk (Rds.cons rfl (by kernel_rfl) rInt (Rds.cons rfl (by kernel_rfl) rInts (Rds.cons rfl (by kernel_rfl) rDefects Rds.nil))))).map
    (fun p => ⟨p.1, p.2.1, p.2.2.1, p.2.2.2.1⟩) fun _ => rfl

theorem own : ownKnob Tryz.prog.godebug = none := by kernel_rfl
theorem laidOut : laidOutB Tryz.prog = true := by kernel_rfl
noncomputable abbrev format0 : Value := .agg #[.int .i64 0, .int .i64 0, .slice none 0 0, .int .i64 0, .int .i64 0, .int .i64 0, .int .i64 0, .int .i64 0, .int .i64 0, .int .i64 0, .slice none 0 0, .slice none 0 0]
noncomputable abbrev cut0 : Value := .agg #[.int .i64 0, .int .i64 0, .int .i64 0]

set_option maxRecDepth 100000 in
theorem order_lifted (walk : ∀ (f : Format) (c : Cut), PSpec env 3 [f.av, c.av] (.bool true)) (os : Os) (started : os.Started) (H : Type) (enc : TypeId × Value → H) :
    ReturnsInHanded {} Tryz.checked os 3 .any (Rows.layoutOrderSpec.pre6 enc Tryz.prog Tryz.f3 Rows.layoutOrderRow.domain false) (Rows.layoutOrderSpec.post enc Tryz.prog Tryz.f3 false true false false) := by
  refine returnsInHanded_of_change (C := Tryz.checked) own started (by kernel_rfl) Tryz.func3
    (ChangeSpec.witness6 (enc := enc) (C := Tryz.checked) false ⟨#[], #[format0, cut0], []⟩ 8 (by kernel_rfl) (by kernel_rfl) (by kernel_rfl) (by kernel_rfl)) ?_
  intro W base args ds gs before hval0 hW hcnd _
  have hval : ∀ (j : Nat) t v, Tryz.f3.params[j]? = some t → args[j]? = some v → Value.okWide Tryz.prog W .any base t v := hval0
  have hW' := hW
  obtain ⟨p, q, hA0, hV, rfl, hfz, hnd⟩ := hW
  have hA : DataW.TrodAll enc Tryz.prog W 0 (fun _ => true) true Tryz.f3.params.toList args.toList ds p := hA0
  rw [Tryz.params3] at hA hval
  obtain ⟨v0, vs0, d0, ds0, p0, q0, hargs, rfl, rfl, h0, r0⟩ := trodAll_cons hA
  obtain ⟨v1, vs1, d1, ds1, p1, q1, rfl, rfl, rfl, h1, r1⟩ := trodAll_cons r0
  obtain ⟨rfl, rfl, rfl⟩ := trodAll_nil r1
  obtain rfl : args = #[v0, v1] := by cases args; simp_all
  obtain ⟨rfl, rfl⟩ := trodVars_none hV
  obtain ⟨f, hf⟩ := rFormat.arg Tryz.underlying30 (hval 0 _ v0 rfl rfl) h0
  obtain ⟨c, hc⟩ := rCut.arg Tryz.underlying32 (hval 1 _ v1 rfl rfl) h1
  refine ((walk f c).calls (W := W) (vs := [v0, v1]) ⟨v0, _, rfl, hf, v1, _, rfl, hc, rfl⟩).mono fun e W' ⟨v, r, H', m', he, hr, hR, hb⟩ => ?_
  subst he hr
  obtain rfl : v = .bool true := hR
  exact ⟨_, rfl, post_kept laidOut (by kernel_rfl) rfl hW' (fun _ _ _ => trodAll_cons_mk (shut_bool Tryz.underlying4 _) trodAll_mk0) (fun _ => rfl) rfl hb (ok_one (by kernel_rfl) rfl (okWide_bool_mk Tryz.underlying4 _))⟩
theorem order_said (walk : ∀ (f : Format) (c : Cut), PSpec env 3 [f.av, c.av] (.bool true)) : Rows.LayoutOrderSaid :=
  OpenClaim.holds_of_wide 3 Tryz.f3 rfl rfl rfl rfl rfl rfl rfl ⟨rfl, rfl, rfl, rfl, rfl⟩ rfl rfl rfl rfl rfl (by kernel_rfl) Tryz.func3 (by kernel_rfl)
    (of_decide_eq_true (by kernel_rfl)) (by unfold Func.isWrapper; first | (rw [if_pos (by decide +kernel)]; kernel_rfl) | (rw [if_neg (by decide +kernel)]; exact ⟨rfl, rfl⟩))
    (fun os started H enc _ => order_lifted walk os started H enc)
end Go.Proofs.YtfbjoamdkieamaaGreat.AM
end

section
set_option linter.unusedSimpArgs false
set_option linter.unusedVariables false
set_option maxHeartbeats 8000000
namespace Go.Proofs.YtfbjoamdkieamaaGreat.AM
open Go Go.Proofs

/-- The messages, turned, and two of them once more. -/
def rotN (l : List Defect) (t : Int) (n : Nat) : List Defect := (List.range n).map fun (i : Nat) => l.getD (((i : Int) + t) % (l.length : Int)).toNat default
theorem rotN_succ (l : List Defect) (t : Int) (n : Nat) : rotN l t (n + 1) = rotN l t n ++ [l.getD (((n : Int) + t) % (l.length : Int)).toNat default] := by simp [rotN, List.range_succ]
theorem rotN_len (l : List Defect) (t : Int) (n : Nat) : (rotN l t n).length = n := by simp [rotN]
def turnL (l : List Defect) (t : Int) : List Defect :=
  if l.length = 0 then [] else rotN l t l.length ++ [(rotN l t l.length).getD 0 default, (rotN l t l.length).getD (l.length - 1) default]
theorem turnL_len (l : List Defect) (t : Int) : (turnL l t).length = if l.length = 0 then 0 else l.length + 2 := by
  unfold turnL
  split <;> simp [rotN_len]
def Format.avT (f : Format) : AV := .agg [.int .i64 f.disk.heads, .int .i64 f.disk.turn, .list false 2 (f.disk.zones.map Zone.av), .int .i64 f.disk.headSkew, .int .i64 f.disk.cylSkew, .int .i64 f.disk.hs.low, .int .i64 f.disk.hs.high, .int .i64 f.disk.cs.low, .int .i64 f.disk.cs.high,
  .int .i64 f.spares, .list false 1 (f.primary.map (.int .i64)), .list true 3 (f.grown.map Defect.av)]
def orderP (f : Format) (c : Cut) : Prop := readyP f ∧ f.grown.length ≤ 14 ∧ (0 ≤ c.cut ∧ c.cut ≤ f.grown.length) ∧ 0 ≤ c.turn ∧ c.turn ≤ 1000

theorem order_walk (f : Format) (c : Cut) (hworks : PSpec env 7 [] (.bool true))
    (a e : Int) (gv fr : List Int) (m : Format)
    (h : orderP f c → 
      PSpec env 9 [f.av, .int .i64 c.block] (.tuple [.int .i64 a, .int .i64 e]) ∧ PSpec env 9 [({ f with grown := turnL f.grown c.turn } : Format).avT, .int .i64 c.block] (.tuple [.int .i64 a, .int .i64 e]) ∧
      PSpec env 10 [f.av] (.tuple [.list true 1 (gv.map (.int .i64)), .int .i64 0]) ∧ PSpec env 10 [({ f with grown := turnL f.grown c.turn } : Format).avT] (.tuple [.list true 1 (gv.map (.int .i64)), .int .i64 0]) ∧
      PSpec env 11 [f.av] (.tuple [.list true 1 (fr.map (.int .i64)), .int .i64 0]) ∧ PSpec env 11 [({ f with grown := turnL f.grown c.turn } : Format).avT] (.tuple [.list true 1 (fr.map (.int .i64)), .int .i64 0]) ∧
      PSpec env 13 [f.av, .list true 0 []] (.tuple [m.av, .int .i64 0]) ∧
      PSpec env 13 [({ f with grown := (turnL f.grown c.turn).take c.cut.toNat } : Format).av, .list false 3 (((turnL f.grown c.turn).drop c.cut.toNat).map Defect.av)] (.tuple [m.av, .int .i64 0])) :
    PSpec env 3 [f.av, c.av] (.bool true) := by
  have hr := ready_spec f
  by_cases hP : orderP f c
  · obtain ⟨h1, h2, h3, h4, h5, h6, h7, h8⟩ := h hP
    obtain ⟨p1, p2, p3, p4⟩ := hP
    have hg1 := sameInts_spec true true gv gv
    have hg2 := sameInts_spec true true fr fr
    have hS := Same_spec m m
    simp only [decide_true] at hg1 hg2 hS
    rw [decide_eq_true p1] at hr
    have hlim : f.disk.zones.length ≤ 4 ∧ f.primary.length ≤ 60 := by
      obtain ⟨_, p5⟩ := p1
      unfold Format.status at p5
      split at p5
      · rename_i hd
        split at p5
        · rename_i hf
          have := hd.1
          unfold headOK at this
          exact ⟨by omega, hf.2.1⟩
        · omega
      · omega
    have hcp := Copy03_spec f (by omega) (by omega) (by omega)
    clear h
    refine Spec.introR (nt := _) (rs := [_]) Tryz.func3 rfl rfl rfl rfl rfl [] (fun _ h => absurd rfl h) fun X hX => ?_
    repeat' (first | refine GoC.seq ?_ | refine GoC.block ?_ | refine GoC.region rfl ?_ | refine GoC.skip ?_ | refine GoC.cond_t rfl ?_ | (refine GoC.cond_d rfl ?_ ?_ <;> intro _ <;> try contradiction) | refine GoOps.nil ?_ | refine GoOps.a rfl ?_ | refine GoOps.u rfl rfl rfl rfl ?_ | refine GoOps.gs rfl rfl rfl rfl ?_ | refine GoOps.p (OpL.len rfl rfl) ?_ | refine GoOps.m (OpL.boxw (by rfl) rfl rfl rfl rfl) ?_ | refine GoOps.p (OpL.call rfl rfl (hr) rfl rfl) ?_ | (refine GoOps.sd rfl rfl ?_ ?_ <;> intro _ <;> try contradiction))
    iterate 4 (· exfalso; omega)
    · exfalso; omega
    refine GoC.loop (G := Nat) (fun i => ⟨ofL .junk [(2, .ptr 2 12 0 0), (3, .ptr 3 3 0 0), (5, .sl true 1000005 3 0 i), (6, .int .i64 i)],
        ofL .free [(2, .arr 30 12 [f.av]), (3, .arr 32 3 [c.av]), (1000005, .arr 36 3 ((rotN f.grown c.turn i).map Defect.av))], []⟩)
      (fun i => i ≤ f.grown.length) (fun i => f.grown.length - i) 0 (Nat.zero_le _) ((AS.sub.nilrow 5 1000005 36 3 rfl rfl).trans (by (refine AS.sub.mk' _ _ (lk []) rfl rfl ?_ ?_ <;> repeat' (first | exact True.intro | rfl | exact Wk.refl _ | exact ⟨_, rfl, Elems.all rfl⟩ | refine And.intro ?_ ?_)))) ?_
    intro i hi R hR
    have hln := rotN_len f.grown c.turn i
    have hm : 0 < (f.grown.length : Int) → 0 ≤ ((i : Int) + c.turn) % (f.grown.length : Int) ∧ ((i : Int) + c.turn) % (f.grown.length : Int) < f.grown.length := fun h => ⟨Int.emod_nonneg _ (by omega), Int.emod_lt_of_pos _ h⟩
    repeat' (first | refine GoC.seq ?_ | refine GoC.block ?_ | refine GoC.region rfl ?_ | refine GoC.draw env_mixed ?_ | refine GoC.skip ?_ | refine GoC.exit ?_ | (refine GoC.cond_d rfl ?_ ?_ <;> intro _ <;> try contradiction) | refine GoOps.nil ?_ | refine GoD.done rfl rfl (by kernel_rfl) ?_ | refine GoOps.a rfl ?_ | refine GoD.a rfl ?_ | refine GoOps.p (OpL.len rfl rfl) ?_ | refine GoD.p (OpL.len rfl rfl) ?_ | refine GoOps.p (OpL.len_s rfl rfl) ?_ | refine GoD.p (OpL.len_s rfl rfl) ?_ | refine GoD.p (OpL.idxn rfl rfl rfl rfl rfl rfl (by (first | assumption | omega))) ?_ | refine GoD.p (OpL.idx_sn rfl rfl rfl rfl rfl rfl (by (first | assumption | omega))) ?_ | refine GoOps.p (OpL.add rfl rfl (by (first | assumption | omega))) ?_ | refine GoD.p (OpL.add rfl rfl (by (first | assumption | omega))) ?_ | refine GoD.p (OpL.sub rfl rfl (by (first | assumption | omega))) ?_ | refine GoD.p (OpL.remn rfl rfl (by (first | assumption | omega)) (by (first | assumption | omega))) ?_ | refine GoD.m (OpL.row rfl) ?_ | refine GoD.m (OpL.app rfl rfl rfl rfl rfl rfl rfl rfl rfl rfl rfl (by (first | rfl | omega | (simp only [List.length_take, List.length_drop, List.length_map, List.length_append, List.length_cons, List.length_nil] <;> omega))) (by (first | rfl | omega | (simp only [List.length_take, List.length_drop, List.length_map, List.length_append, List.length_cons, List.length_nil] <;> omega))) (by (first | rfl | omega | (simp only [List.length_take, List.length_drop, List.length_map, List.length_append, List.length_cons, List.length_nil] <;> omega)))) ?_ | refine GoD.p (OpL.ldm rfl rfl (by (first | assumption | omega)) rfl (fun _ => rfl)) ?_)
    · refine hR (i + 1) _ (by omega) (by omega) ?_
      rw [rotN_succ]
      refine AS.sub.mk' _ _ (lk [(1000005, 78)]) rfl rfl ?_ ?_ <;> repeat' (first | exact True.intro | rfl | exact Wk.refl _ | exact Wk.of_eq (congrArg (AV.sl _ _ _ _) (by (first | rfl | omega | (simp only [List.length_take, List.length_drop, List.length_map, List.length_append, List.length_cons, List.length_nil] <;> omega)))) | exact ⟨_, rfl, Elems.all rfl⟩ | exact ⟨_, rfl, Elems.of_eq (by rw [List.map_append]; rfl) (noId_map (fun _ => rfl) _)⟩ | refine And.intro ?_ ?_)
    all_goals (obtain rfl : i = f.grown.length := by omega)
    all_goals apply GoOps.sub (s' := ⟨ofL .junk [(2, .ptr 2 12 0 0), (3, .ptr 3 3 0 0), (5, .sl true 1000005 3 0 (turnL f.grown c.turn).length), (94, f.av)], ofL .free [(2, .arr 30 12 [f.av]), (3, .arr 32 3 [c.av]), (1000005, .arr 36 3 ((turnL f.grown c.turn).map Defect.av))], []⟩)
    · have ht : turnL f.grown c.turn = rotN f.grown c.turn f.grown.length ++ [(rotN f.grown c.turn f.grown.length).getD 0 default, (rotN f.grown c.turn f.grown.length).getD (f.grown.length - 1) default] := by rw [turnL, if_neg (by omega)]
      have e : ((f.grown.length : Int) - 1).toNat = f.grown.length - 1 := by omega
      rw [ht, e]
      refine AS.sub.mk' _ _ (lk [(1000005, 93)]) rfl rfl ?_ ?_ <;> repeat' (first | exact True.intro | rfl | exact Wk.refl _ | exact Wk.of_eq (congrArg (AV.sl _ _ _ _) (by (first | rfl | omega | (simp only [List.length_take, List.length_drop, List.length_map, List.length_append, List.length_cons, List.length_nil] <;> omega)))) | exact ⟨_, rfl, Elems.all rfl⟩ | exact ⟨_, rfl, Elems.of_eq (by rw [List.map_append]; rfl) (noId_map (fun _ => rfl) _)⟩ | refine And.intro ?_ ?_)
    rotate_left
    · have h0 : f.grown.length = 0 := by omega
      have ht : turnL f.grown c.turn = [] := by rw [turnL, if_pos h0]
      rw [ht, h0]
      (refine AS.sub.mk' _ _ (lk []) rfl rfl ?_ ?_ <;> repeat' (first | exact True.intro | rfl | exact Wk.refl _ | exact ⟨_, rfl, Elems.all rfl⟩ | refine And.intro ?_ ?_))
    all_goals clear hm hR hln
    all_goals have hlt := turnL_len f.grown c.turn
    all_goals have hlt2 : f.grown.length ≤ (turnL f.grown c.turn).length ∧ (turnL f.grown c.turn).length ≤ 16 := by rw [hlt]; split <;> omega
    all_goals generalize hl : turnL f.grown c.turn = l at *
    all_goals
      repeat' (first | refine GoC.seq ?_ | refine GoC.region rfl ?_ | refine GoOps.nil ?_ | refine GoOps.a rfl ?_ | refine GoOps.b rfl ?_ | refine GoOps.n (OpL.st1 rfl) ?_ | refine GoOps.p (OpL.call rfl rfl (hcp) rfl rfl) ?_ | refine GoOps.p (OpL.call rfl rfl (h1) rfl rfl) ?_)
      refine GoOps.sub (AS.sub.frzo [1000005] [(5, .list true 3 (l.map Defect.av)), (106, ({ f with grown := l } : Format).avT)] [(7, .arr 30 12 [({ f with grown := l } : Format).avT])] ?_ ?_) ?_
      · repeat' (first | exact True.intro | exact Fz.same _ | exact Fz.mp rfl rfl (fun _ => rfl) (by (first | rfl | omega | (simp only [List.length_take, List.length_drop, List.length_map, List.length_append, List.length_cons, List.length_nil] <;> omega))) | refine Fz.agg1 ?_ ?_ | refine And.intro ?_ ?_)
      · repeat' (first | exact ⟨⟨by decide, _, rfl, ElF.cons (by repeat' (first | exact Fz.same _ | exact Fz.mp rfl rfl (fun _ => rfl) (by (first | rfl | omega | (simp only [List.length_take, List.length_drop, List.length_map, List.length_append, List.length_cons, List.length_nil] <;> omega))) | refine Fz.agg1 ?_ ?_)) (ElF.same _)⟩, trivial⟩)
      repeat' (first | refine GoC.seq ?_ | refine GoC.region rfl ?_ | refine GoC.skip ?_ | refine GoC.cond_f rfl ?_ | refine GoOps.nil ?_ | refine GoOps.a rfl ?_ | refine GoOps.u rfl rfl rfl rfl ?_ | refine GoOps.b rfl ?_ | refine GoOps.p (OpL.sto rfl rfl rfl rfl rfl (by (first | assumption | omega))) ?_ | refine GoOps.m (OpL.row rfl) ?_ | refine GoOps.m (OpL.appl rfl rfl rfl rfl rfl rfl rfl rfl rfl (fun _ => rfl) (by (first | rfl | omega | (simp only [List.length_take, List.length_drop, List.length_map, List.length_append, List.length_cons, List.length_nil] <;> omega))) (by (first | rfl | omega | (simp only [List.length_take, List.length_drop, List.length_map, List.length_append, List.length_cons, List.length_nil] <;> omega)))) ?_ | refine GoOps.n (OpL.st1 rfl) ?_ | refine GoOps.p (OpL.call rfl rfl (h2) rfl rfl) ?_ | refine GoOps.p (OpL.call rfl rfl (h3) rfl rfl) ?_ | refine GoOps.p (OpL.call rfl rfl (h4) rfl rfl) ?_ | refine GoOps.p (OpL.call rfl rfl (h5) rfl rfl) ?_ | refine GoOps.p (OpL.call rfl rfl (h6) rfl rfl) ?_ | refine GoOps.p (OpL.call rfl rfl (h7) rfl rfl) ?_ | refine GoOps.p (OpL.call rfl rfl (hg1) rfl rfl) ?_ | refine GoOps.p (OpL.call rfl rfl (hg2) rfl rfl) ?_ | (refine GoOps.sd rfl rfl ?_ ?_ <;> intro _ <;> try contradiction))
      refine GoC.frz [178] [] [(7, .arr 30 12 [({ f with grown := l.take c.cut.toNat } : Format).av])] trivial ?_ ?_
      · repeat' (first | exact ⟨⟨by decide, _, rfl, ElF.cons (by repeat' (first | exact Fz.same _ | exact Fz.mp rfl rfl (fun _ => rfl) (by (first | rfl | omega | (simp only [List.length_take, List.length_drop, List.length_map, List.length_append, List.length_cons, List.length_nil] <;> omega))) | refine Fz.agg1 ?_ ?_)) (ElF.same _)⟩, trivial⟩)
      repeat' (first | refine GoC.seq ?_ | refine GoC.region rfl ?_ | refine GoC.draw env_mixed ?_ | refine GoC.ret ?_ | refine GoOps.nil ?_ | refine GoD.done rfl rfl (by kernel_rfl) ?_ | refine GoOps.a rfl ?_ | refine GoOps.u rfl rfl rfl rfl ?_ | refine GoD.a rfl ?_ | refine GoD.b rfl ?_ | refine GoD.p (OpL.sfr rfl rfl rfl rfl rfl (by (first | assumption | omega))) ?_ | refine GoD.n (OpL.st1 rfl) ?_ | refine GoD.p (OpL.call rfl rfl (h8) rfl rfl) ?_ | refine GoOps.p (OpL.call rfl rfl (hS) rfl rfl) ?_ | refine GoOps.p (OpL.call rfl rfl (hworks) rfl rfl) ?_)
      ((try dsimp only [thenA, inBlockA]); refine FnPost.many (.inr rfl) (RetOK.hv rfl RetOK.nil) ?_; (try dsimp only [tup]))
  · have hr2 : (readyP f ∧ PSpec env 6 [f.av] (.bool true)) ∨ (¬ readyP f ∧ PSpec env 6 [f.av] (.bool false)) := by
      by_cases h1 : readyP f
      · rw [decide_eq_true h1] at hr; exact .inl ⟨h1, hr⟩
      · rw [decide_eq_false h1] at hr; exact .inr ⟨h1, hr⟩
    rcases hr2 with ⟨h1, hr2⟩ | ⟨h1, hr2⟩
    · refine Spec.introR (nt := _) (rs := [_]) Tryz.func3 rfl rfl rfl rfl rfl [] (fun _ h => absurd rfl h) fun X hX => ?_
      repeat' (first | refine GoC.seq ?_ | refine GoC.block ?_ | refine GoC.region rfl ?_ | refine GoC.skip ?_ | refine GoC.ret ?_ | refine GoC.cond_t rfl ?_ | (refine GoC.cond_d rfl ?_ ?_ <;> intro _ <;> try contradiction) | refine GoOps.nil ?_ | refine GoOps.a rfl ?_ | refine GoOps.u rfl rfl rfl rfl ?_ | refine GoOps.gs rfl rfl rfl rfl ?_ | refine GoOps.p (OpL.len rfl rfl) ?_ | refine GoOps.m (OpL.boxw (by rfl) rfl rfl rfl rfl) ?_ | refine GoOps.p (OpL.call rfl rfl (hr2) rfl rfl) ?_ | refine GoOps.p (OpL.call rfl rfl (hworks) rfl rfl) ?_ | (refine GoOps.sd rfl rfl ?_ ?_ <;> intro _ <;> try contradiction))
      all_goals first | (((try dsimp only [thenA, inBlockA]); refine FnPost.many (.inr rfl) (RetOK.hv rfl RetOK.nil) ?_; (try dsimp only [tup])); done) | (exfalso; exact hP ⟨h1, by omega, ⟨by omega, by omega⟩, by omega, by omega⟩)
    · refine Spec.introR (nt := _) (rs := [_]) Tryz.func3 rfl rfl rfl rfl rfl [] (fun _ h => absurd rfl h) fun X hX => ?_
      repeat' (first | refine GoC.seq ?_ | refine GoC.region rfl ?_ | refine GoC.ret ?_ | refine GoC.cond_t rfl ?_ | refine GoOps.nil ?_ | refine GoOps.a rfl ?_ | refine GoOps.gs rfl rfl rfl rfl ?_ | refine GoOps.m (OpL.boxw (by rfl) rfl rfl rfl rfl) ?_ | refine GoOps.p (OpL.call rfl rfl (hr2) rfl rfl) ?_ | refine GoOps.p (OpL.call rfl rfl (hworks) rfl rfl) ?_)
      ((try dsimp only [thenA, inBlockA]); refine FnPost.many (.inr rfl) (RetOK.hv rfl RetOK.nil) ?_; (try dsimp only [tup]))
end Go.Proofs.YtfbjoamdkieamaaGreat.AM
end

section
set_option linter.unusedSimpArgs false
set_option linter.unusedVariables false
set_option maxHeartbeats 8000000
namespace Go.Proofs.YtfbjoamdkieamaaGreat.AM
open Go Go.Proofs Go.Sort

theorem agree_of {l : List Defect} (h : ¬ clashP l) : agree l := by
  intro a ha b hb hid
  obtain ⟨i, hi, rfl⟩ := List.mem_iff_getElem.1 ha
  obtain ⟨j, hj, rfl⟩ := List.mem_iff_getElem.1 hb
  refine Decidable.byContradiction fun hne => h ?_
  rcases Nat.lt_trichotomy i j with h1 | h1 | h1
  · exact ⟨j, hj, i, h1, by simp only [nth, gd hi, gd hj]; exact hid.symm, by simp only [nth, gd hi, gd hj]; exact fun e => hne e.symm⟩
  · subst h1; exact absurd rfl hne
  · exact ⟨i, hi, j, h1, by simp only [nth, gd hi, gd hj]; exact hid, by simp only [nth, gd hi, gd hj]; exact hne⟩
theorem noClash {l : List Defect} (h : agree l) : ¬ clashL l := by unfold clashL; rw [diff_all h]; omega
/-- A format that a statement examines. -/
structure Rdy (f : Format) : Prop where
  disk : f.disk.ok
  form : formatP f
  agree : AM.agree f.grown
theorem readyP.rdy {f : Format} (h : readyP f) : Rdy f := by
  have h := h.2
  unfold Format.status at h
  split at h
  · rename_i h1
    split at h
    · rename_i h2
      split at h
      · omega
      · rename_i h3; exact ⟨h1, h2, agree_of h3⟩
    · omega
  · omega
theorem Rdy.check {f : Format} (h : Rdy f) : f.check = 0 := by
  have h1 : f.form = 0 := by rw [Format.form, if_pos h.disk, if_pos h.form]
  rw [Format.check, if_pos h1, if_neg (noClash h.agree)]
theorem Rdy.inVD {f : Format} (h : Rdy f) : inVD f.grown := h.form.inVD
theorem Rdy.lens {f : Format} (h : Rdy f) : f.disk.zones.length ≤ 4 ∧ f.primary.length ≤ 60 ∧ f.grown.length ≤ 30 := by
  have h1 := h.disk.1
  unfold headOK at h1
  exact ⟨by omega, h.form.2.1, h.form.2.2.1⟩
theorem Rdy.less {f : Format} (h : Rdy f) {l : List Defect} (hl : ∀ x ∈ l, x ∈ f.grown) (hn : l.length ≤ 30) : Rdy { f with grown := l } := by
  obtain ⟨h1, h2, h3⟩ := h
  refine ⟨h1, ⟨h2.1, h2.2.1, hn, h2.2.2.2.1, fun i hi => ?_⟩, fun a ha b hb => h3 a (hl a ha) b (hl b hb)⟩
  have hm : (nth l i) ∈ f.grown := hl _ (by simp only [nth]; rw [gd hi]; exact List.getElem_mem hi)
  obtain ⟨j, hj, he⟩ := List.mem_iff_getElem.1 hm
  have := h2.2.2.2.2 j hj
  simp only [nth, gd hj] at this
  rw [he] at this
  exact this
theorem Rdy.layP {f : Format} (h : Rdy f) {l : List Defect} (hl : ∀ x, x ∈ l ↔ x ∈ f.grown) : AM.layP { f with grown := l } = AM.layP f := by
  have hg : AM.agree l := fun a ha b hb => h.agree a ((hl a).1 ha) b ((hl b).1 hb)
  have e : lDone l = lDone f.grown := lDone_eq hg h.agree hl h.inVD
  unfold AM.layP msgs
  rw [show ({ f with grown := l } : Format).grown = l from rfl, e]
  rfl
theorem Rdy.valid {f : Format} (h : Rdy f) (hn : f.grown.length ≤ 19) : Valid f := ⟨h.check, Nat.le_trans (lDone_len h.inVD) hn⟩

theorem rotN_mem {l : List Defect} {t : Int} (x : Defect) : x ∈ rotN l t l.length ↔ x ∈ l := by
  unfold rotN
  simp only [List.mem_map, List.mem_range]
  constructor
  · rintro ⟨i, hi, rfl⟩
    have h1 := Int.emod_nonneg ((i : Int) + t) (b := (l.length : Int)) (by omega)
    have h2 := Int.emod_lt_of_pos ((i : Int) + t) (b := (l.length : Int)) (by omega)
    have h3 : (((i : Int) + t) % (l.length : Int)).toNat < l.length := by omega
    rw [gd h3]; exact List.getElem_mem h3
  · intro hx
    obtain ⟨j, hj, rfl⟩ := List.mem_iff_getElem.1 hx
    have h1 := Int.emod_nonneg ((j : Int) - t) (b := (l.length : Int)) (by omega)
    have h2 := Int.emod_lt_of_pos ((j : Int) - t) (b := (l.length : Int)) (by omega)
    refine ⟨(((j : Int) - t) % (l.length : Int)).toNat, by omega, ?_⟩
    rw [Int.toNat_of_nonneg h1, Int.emod_add_emod, Int.sub_add_cancel, Int.emod_eq_of_lt (by omega) (by omega), Int.toNat_natCast, gd hj]
theorem turnL_mem {l : List Defect} {t : Int} (x : Defect) : x ∈ turnL l t ↔ x ∈ l := by
  unfold turnL
  split
  · rename_i h; rw [List.eq_nil_of_length_eq_zero h]
  · rename_i h
    rw [List.mem_append, rotN_mem]
    refine ⟨fun hx => ?_, .inl⟩
    rcases hx with hx | hx
    · exact hx
    · have hln := rotN_len l t l.length
      simp only [List.mem_cons, List.not_mem_nil, or_false] at hx
      rw [← rotN_mem (t := t)]
      rcases hx with rfl | rfl
      · rw [gd (by omega)]; exact List.getElem_mem _
      · rw [gd (by omega)]; exact List.getElem_mem _

/-! ### works -/
theorem ex_rdy : Rdy exFormat := ⟨by decide, by decide, agree_of (by decide)⟩
def exMsgs : List Defect := [⟨1, 5, 4⟩, ⟨5, 6, 30⟩, ⟨3, 7, 33⟩, ⟨4, 8, 23⟩, ⟨2, 9, 22⟩]
theorem ex_msgs : msgs exFormat = exMsgs := by
  have h : lDone exFormat.grown = exFormat.grown := by kernel_rfl
  have h2 : insSt exFormat.grown = exMsgs := by kernel_rfl
  rw [msgs, h, h2]
theorem ex_lay : layP exFormat = growL exFormat (plan0 exFormat) exMsgs := by rw [layP, ex_msgs]
theorem works_spec : PSpec env 7 [] (.bool true) := by
  have hv := ex_rdy.valid (by decide)
  have h1 := Blocks_spec exFormat hv
  have h2 := Where_spec exFormat hv 26
  have h3 := Lost_spec exFormat hv
  rw [ex_lay] at h1 h2 h3
  rw [show ((growL exFormat (plan0 exFormat) exMsgs).blocks.length : Int) = 28 from by kernel_rfl] at h1
  rw [show (growL exFormat (plan0 exFormat) exMsgs).where_ 26 = (32, 0) from by kernel_rfl] at h2
  rw [show (growL exFormat (plan0 exFormat) exMsgs).lost = [3] from by kernel_rfl] at h3
  have h4 := exFormat_spec
  have h5 := sameInts_spec true false [3] [3]
  simp only [decide_true] at h5
  generalize exFormat = f at *
  refine Spec.intro (nt := _) (rs := [_]) Tryz.func7 rfl rfl rfl rfl rfl [] (fun _ h => absurd rfl h) fun X => ?_
  repeat' (first | refine GoC.seq ?_ | refine GoC.region rfl ?_ | refine GoOps.nil ?_ | refine GoOps.a rfl ?_ | refine GoOps.u rfl rfl rfl rfl ?_ | refine GoOps.b rfl ?_ | refine GoOps.m (OpL.row rfl) ?_ | refine GoOps.n (OpL.st1 rfl) ?_ | refine GoOps.p (OpL.call rfl rfl (h4) rfl rfl) ?_ | refine GoOps.p (OpL.call rfl rfl (h1) rfl rfl) ?_ | refine GoOps.p (OpL.call rfl rfl (h2) rfl rfl) ?_ | refine GoOps.p (OpL.call rfl rfl (h3) rfl rfl) ?_)
  refine GoOps.sub (AS.sub.frz [44] [(44, .list false 1 ([(3 : Int)].map (.int .i64)))] ⟨Fz.mp rfl rfl (fun _ => rfl) (by (first | rfl | omega | (simp only [List.length_take, List.length_drop, List.length_map, List.length_append, List.length_cons, List.length_nil] <;> omega))), trivial⟩) ?_
  repeat' (first | refine GoC.ret ?_ | refine GoOps.nil ?_ | refine GoOps.a rfl ?_ | refine GoOps.p (OpL.call rfl rfl (h5) rfl rfl) ?_)
  ((try dsimp only [thenA, inBlockA]); refine FnPost.many (.inr rfl) (RetOK.hv rfl RetOK.nil) ?_; (try dsimp only [tup]))

theorem Wk.agg {xs ys : List AV} (h : Wks xs ys) : Wk (.agg xs) (.agg ys) := fun m v ⟨vs, h1, h2⟩ => ⟨vs, h1, h.RS h2⟩
theorem Format.avT_wk (f : Format) : Wk f.avT f.av :=
  .agg (.cons (.refl _) (.cons (.refl _) (.cons (.refl _) (.cons (.refl _) (.cons (.refl _) (.cons (.refl _) (.cons (.refl _) (.cons (.refl _) (.cons (.refl _) (.cons (.refl _) (.cons (.refl _) (.cons (.list _ _ _) .nil))))))))))))

theorem diffOf_len {l : List Defect} (h : agree l) : (diffOf l).length ≤ l.length := by rw [diff_all h]; exact allOf_len l
theorem Rdy.merge {f : Format} (h : Rdy f) (more : List Defect) (hm : Rdy { f with grown := more }) (ha : AM.agree (f.grown ++ more)) (hn : (diffOf (f.grown ++ more)).length ≤ 30) : PSpec env 13 [f.av, defs more] (.tuple [(f.merge more).av, .int .i64 0]) := by
  have h1 := h.lens
  have h2 := hm.lens
  have h3 := h2.2.2
  refine Merge_spec f more h.check hm.check hn (noClash ha) (by omega) (by omega) (by rw [List.length_append]; have : more.length ≤ 30 := h3; omega) fun d hd => ?_
  rcases List.mem_append.1 hd with hd | hd
  · exact h.inVD d hd
  · exact hm.inVD d hd

theorem LayoutOrder_holds (f : Format) (c : Cut) : PSpec env 3 [f.av, c.av] (.bool true) := by
  refine order_walk f c works_spec ((layP f).where_ c.block).1 ((layP f).where_ c.block).2 (layP f).secs (layP f).spares (f.merge []) fun hP => ?_
  obtain ⟨h0, h1, h2, h3, h4⟩ := hP
  have hr := h0.rdy
  have hv := hr.valid (by omega)
  have hln := turnL_len f.grown c.turn
  have hl16 : (turnL f.grown c.turn).length ≤ 16 := by rw [hln]; split <;> omega
  have ho := hr.less (l := turnL f.grown c.turn) (fun x hx => (turnL_mem x).1 hx) (by omega)
  have hvo := ho.valid (by show (turnL f.grown c.turn).length ≤ 19; omega)
  have hlay := hr.layP (l := turnL f.grown c.turn) turnL_mem
  have hW := Where_spec _ hvo c.block
  have hG := Given_spec _ hvo
  have hF := Free_spec _ hvo
  rw [hlay] at hW hG hF
  have hw1 : Wks [({ f with grown := turnL f.grown c.turn } : Format).avT] [({ f with grown := turnL f.grown c.turn } : Format).av] := .cons (Format.avT_wk _) .nil
  have hw2 : Wks [({ f with grown := turnL f.grown c.turn } : Format).avT, .int .i64 c.block] [({ f with grown := turnL f.grown c.turn } : Format).av, .int .i64 c.block] := .cons (Format.avT_wk _) (.cons (.refl _) .nil)
  have hd2 := diffOf_len hr.agree
  refine ⟨Where_spec f hv c.block, hW.wk hw2, Given_spec f hv, hG.wk hw1, Free_spec f hv, hF.wk hw1, ?_, ?_⟩
  · have := hr.merge [] (hr.less (fun x hx => by simp at hx) (by simp)) (by rw [List.append_nil]; exact hr.agree) (by rw [List.append_nil]; omega)
    exact this.wk (.cons (.refl _) (.cons (.nil _ _) .nil))
  · generalize hL : turnL f.grown c.turn = l at *
    have hmem : ∀ x, x ∈ l ↔ x ∈ f.grown := fun x => by rw [← hL]; exact turnL_mem x
    have hk : c.cut.toNat ≤ 16 := by omega
    have ht := hr.less (l := l.take c.cut.toNat) (fun x hx => (hmem x).1 (List.mem_of_mem_take hx)) (by rw [List.length_take]; omega)
    have hd := hr.less (l := l.drop c.cut.toNat) (fun x hx => (hmem x).1 (List.mem_of_mem_drop hx)) (by rw [List.length_drop]; omega)
    have hal : agree l := ho.agree
    have hm := ht.merge (l.drop c.cut.toNat) hd (by show agree (l.take c.cut.toNat ++ l.drop c.cut.toNat); rw [List.take_append_drop]; exact hal)
      (by show (diffOf (l.take c.cut.toNat ++ l.drop c.cut.toNat)).length ≤ 30; rw [List.take_append_drop]; have := diffOf_len hal; omega)
    have e : ({ f with grown := l.take c.cut.toNat } : Format).merge (l.drop c.cut.toNat) = f.merge [] := by
      show copyF _ _ (lDone (l.take c.cut.toNat ++ l.drop c.cut.toNat)) = copyF _ _ (lDone (f.grown ++ []))
      rw [List.take_append_drop, List.append_nil, lDone_eq hal hr.agree hmem hr.inVD]
      rfl
    rw [e] at hm
    exact hm

/-- For every format, cut, turn and block the law LayoutOrder returns true, and leaves its arguments as they were. -/
theorem layoutOrder_proved : Rows.LayoutOrderSaid := order_said LayoutOrder_holds
end Go.Proofs.YtfbjoamdkieamaaGreat.AM
end
