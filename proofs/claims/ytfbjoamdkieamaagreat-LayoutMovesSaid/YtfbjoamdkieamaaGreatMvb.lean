/-
  For every format and sector the law LayoutMoves returns true and leaves its arguments as they were: no condition. (part 2 of 5)
-/
import Derived.Test.YtfbjoamdkieamaaGreatMva
import Derived.Test.YtfbjoamdkieamaaGreatProg
import Derived.KernelRfl
import Derived.DeepKeys
import Derived.Maps.RangeRun
import Derived.MapKept

section
set_option linter.unusedSimpArgs false
set_option linter.unusedVariables false
namespace Go.Proofs.YtfbjoamdkieamaaGreat.AM
open Go

structure SR where
  rd : List Nat
  post : List (Nat × HO)
  v : AV

/-- The value, its head seen. -/
def hn (v : AV) : Option SR :=
  match v with
  | .junk => some ⟨[], [], .junk⟩
  | .int k n => some ⟨[], [], .int k n⟩
  | .bool b => some ⟨[], [], .bool b⟩
  | .raw u => some ⟨[], [], .raw u⟩
  | .list c w l => some ⟨[], [], .list c w l⟩
  | .agg cs => some ⟨[], [], .agg cs⟩
  | .tuple vs => some ⟨[], [], .tuple vs⟩
  | .ref x o => some ⟨[], [], .ref x o⟩
  | .ptr id w i o => some ⟨[], [], .ptr id w i o⟩
  | .sl c id w off len => some ⟨[], [], .sl c id w off len⟩
  | .fn f a b => some ⟨[], [], .fn f a b⟩
  | .omap id => some ⟨[], [], .omap id⟩
  | .yld id => some ⟨[], [], .yld id⟩
theorem hn_eq {v : AV} {r : SR} (h : hn v = some r) : r = ⟨[], [], v⟩ := by cases v <;> simp [hn] at h <;> exact h.symm

/-- The list, each of its links seen. -/
def seen (l : List AV) (k : List AV → Option SR) : Option SR :=
  match l with
  | [] => k []
  | x :: r => seen r fun r' => k (x :: r')
theorem seen_eq : ∀ (l : List AV) (k : List AV → Option SR), seen l k = k l
  | [], k => rfl
  | x :: r, k => by rw [seen, seen_eq r]

def isAggAV : AV → Bool
  | .agg _ => true
  | _ => false

def loadF (td : TD) (x : AV) (o : Nat) (rd : List Nat) : Option SR :=
  match td.kind.known, td.kind.isAgg, x.plain with
  | true, false, true => match x.cells[o]? with
    | some v => match hn v with
      | some r => some ⟨rd, [], r.v⟩
      | none => none
    | none => none
  | true, true, true => match o, Nat.beq x.cells.length td.size, isAggAV x with
    | 0, true, true => some ⟨rd, [], x⟩
    | o, _, _ => bif Nat.ble (o + td.size) x.cells.length then seen ((x.cells.drop o).take td.size) (fun l => some ⟨rd, [], .agg l⟩) else none
  | _, _, _ => none

def fieldF (td : Nat → TD) (s i : Nat) (v : AV) : Option SR :=
  match (td s).kind with
  | .struct fs => match fs[i]? with
    | some (off, ft) => bif (td ft).kind.known && !Nat.beq (td ft).size 0 then
        (match v with
        | .ref x o => some ⟨[], [], .ref x (o + off)⟩
        | .ptr id w k o => some ⟨[], [], .ptr id w k (o + off)⟩
        | _ => none) else none
    | none => none
  | _ => none

def stepF (td : Nat → TD) (T : Nat → AV) (H : Nat → HO) (d : Nat) (op : Op) : Option SR :=
  match op with
  | .move X => hn (ev T X)
  | .assign X => hn (ev T X)
  | .pick c a b => match ev T c with
    | .bool true => hn (ev T a)
    | .bool false => hn (ev T b)
    | _ => none
  | .nilCheck X => bif nilOK (ev T X) then hn (ev T X) else none
  | .extract X i => match ev T X with
    | .tuple vs => match vs[i]? with
      | some v => hn v
      | none => none
    | _ => none
  | .load t X => match ev T X with
    | .ref x o => loadF (td t) x o []
    | .ptr id w i o => match H id with
      | .arr _ w' l => bif Nat.beq w' w then (match l[i]? with
        | some x => loadF (td t) x o [id]
        | none => none) else none
      | _ => none
    | _ => none
  | .fieldAddr s X i => fieldF td s i (ev T X)
  | .unOp .not _ X => match ev T X with
    | .bool b => some ⟨[], [], .bool (!b)⟩
    | _ => none
  | .binOp op _ X Y _ => match ev T X, ev T Y with
    | .int k x, .int k' y => bif k == k' then (match cmp op x y with
      | some b => some ⟨[], [], .bool b⟩
      | none => none) else none
    | _, _ => none
  | .alloc t => match td t, H d with
      | ⟨kd, size, _, zero⟩, .free => bif kd.known then some ⟨[d], [(d, .arr t size [zero])], .ptr d size 0 0⟩ else none
      | _, _ => none
  | _ => none

section
variable {E : Env} {T : Nat → AV} {H : Nat → HO} {d : Option Tmp} {ty : TypeId} {pos : String} {af : Array Edge} {g : Option (Nat × Bool)}

theorem loadF_ok {td : TD} {x : AV} {o : Nat} {rd : List Nat} {r : SR} (h : loadF td x o rd = some r) : r.rd = rd ∧ r.post = [] ∧ LoadV td x o r.v := by
  unfold loadF at h
  split at h
  · rename_i h1 h2 h3
    split at h
    · rename_i v hv
      split at h
      · rename_i r' hr
        cases h
        rw [hn_eq hr]
        have ho : o < x.cells.length := (List.getElem?_eq_some_iff.1 hv).1
        have := LoadV.cell (TK.known_ne h1) h2 h3 ho
        rw [List.getD_eq_getElem?_getD, hv] at this
        exact ⟨rfl, rfl, this⟩
      · cases h
    · cases h
  · rename_i h1 h2 h3
    split at h
    · rename_i h4 h5
      cases h
      cases x with
      | agg cs => exact ⟨rfl, rfl, LoadV.whole (TK.known_ne h1) h2 cs rfl (Nat.eq_of_beq_eq_true h4) rfl⟩
      | _ => simp [isAggAV] at h5
    · rw [Bool.cond_eq_ite] at h
      split at h
      · rename_i hb
        rw [seen_eq] at h
        cases h
        exact ⟨rfl, rfl, LoadV.part (TK.known_ne h1) h2 h3 (Nat.le_of_ble_eq_true hb)⟩
      · cases h
  · cases h

theorem fieldF_ok {s i : Nat} {X : Operand} {r : SR} (h : fieldF E.td s i (ev T X) = some r) : OpL E ⟨d, .fieldAddr s X i, ty, pos, af, g⟩ T H r.rd r.post r.v := by
  unfold fieldF at h
  split at h
  · rename_i fs hk
    split at h
    · rename_i off ft hf
      cases hb : (E.td ft).kind.known && !Nat.beq (E.td ft).size 0 with
      | false => rw [hb] at h; cases h
      | true =>
        rw [hb] at h
        simp only [Bool.and_eq_true, Bool.not_eq_true'] at hb
        have h0 : (E.td ft).size ≠ 0 := by intro he; rw [he] at hb; exact absurd hb.2 (by simp)
        simp only [cond_true] at h
        split at h
        · rename_i x o hx
          cases h
          exact OpL.field_ref hx hk hf (TK.known_ne hb.1) h0
        · rename_i id w k o hx
          cases h
          exact OpL.field_ptr hx hk hf (TK.known_ne hb.1) h0
        · cases h
    · cases h
  · cases h

theorem stepF_ok {op : Op} {r : SR} {d : Nat} (h : stepF E.td T H d op = some r) : OpL E ⟨some d, op, ty, pos, af, g⟩ T H r.rd r.post r.v := by
  unfold stepF at h
  split at h
  · rw [hn_eq h]; exact OpL.move
  · rw [hn_eq h]; exact OpL.assign
  · -- pick
    split at h
    · rename_i hc; rw [hn_eq h]; exact OpL.pick_t hc
    · rename_i hc; rw [hn_eq h]; exact OpL.pick_f hc
    · cases h
  · -- nilCheck
    rename_i X
    cases hb : nilOK (ev T X) with
    | false => rw [hb] at h; cases h
    | true => rw [hb] at h; rw [hn_eq h]; exact OpL.nilCheck hb
  · -- extract
    split at h
    · rename_i vs hx
      split at h
      · rename_i v hv
        rw [hn_eq h]
        exact OpL.ext hx hv
      · cases h
    · cases h
  · -- load
    split at h
    · rename_i x o hx
      obtain ⟨h1, h2, h3⟩ := loadF_ok h
      rw [h1, h2]
      exact OpL.load_ref hx h3
    · rename_i id w i o hx
      split at h
      · rename_i tt w' l hH
        cases hb : Nat.beq w' w with
        | false => rw [hb] at h; cases h
        | true =>
          rw [hb] at h
          simp only [cond_true] at h
          split at h
          · rename_i x hl
            obtain ⟨h1, h2, h3⟩ := loadF_ok h
            rw [h1, h2]
            have hi' : i < l.length := (List.getElem?_eq_some_iff.1 hl).1
            have hx' : l.getD i .junk = x := by rw [List.getD_eq_getElem?_getD, hl]; rfl
            exact OpL.load_ptr hx hH (Nat.eq_of_beq_eq_true hb) hi' (by rw [hx']; exact h3)
          · cases h
      · cases h
    · cases h
  · exact fieldF_ok h
  · -- not
    split at h
    · rename_i b hx; cases h; exact OpL.not hx
    · cases h
  · -- cmp
    split at h
    · rename_i k x k' y hx hy
      cases hb : k == k' with
      | false => rw [hb] at h; cases h
      | true =>
        rw [hb] at h
        simp only [cond_true] at h
        simp only [beq_iff_eq] at hb
        subst hb
        split at h
        · rename_i b hc; cases h; exact OpL.cmp hx hy hc
        · cases h
    · cases h
  · -- alloc
    rename_i t
    split at h
    · rename_i kd size by_ zero ht hf
      cases hb : kd.known with
      | false => rw [hb] at h; cases h
      | true =>
        rw [hb] at h
        cases h
        exact OpL.alloc (E := E) (td := ⟨kd, size, by_, zero⟩) ht (TK.known_ne hb) hf
    · cases h
  · cases h
end

section
variable {E : Env} {X : Ctx} {nt : Nat} {ops : Array Oper} {l : List Oper} {i : Nat} {op : Op} {ty : TypeId} {pos : String} {af : Array Edge} {t : Nat → AV} {h : Nat → HO} {k : List Nat} {rd : List Nat} {post : List (Nat × HO)} {v : AV} {K : AS → Prop}
theorem GoOps.a (hs : stepF E.td t h i op = some ⟨rd, [], v⟩) (hK : GoOps E X nt ops l K ⟨upd t i v, h, k⟩) : GoOps E X nt ops (⟨some i, op, ty, pos, af, none⟩ :: l) K ⟨t, h, k⟩ := GoOps.p (stepF_ok hs) hK
theorem GoOps.b (hs : stepF E.td t h i op = some ⟨rd, post, v⟩) (hK : GoOps E X nt ops l K ⟨upd t i v, updL h post, k⟩) : GoOps E X nt ops (⟨some i, op, ty, pos, af, none⟩ :: l) K ⟨t, h, k⟩ := GoOps.m (stepF_ok hs) hK
variable {ks : List Nat} {T0 : Nat → AV} {H0 : Nat → HO} {fpr : List (List Nat × List Nat)}
theorem GoD.a (hs : stepF E.td t h i op = some ⟨rd, [], v⟩) (hK : GoD E X nt ops K ks T0 H0 ((rd, []) :: fpr) l (upd t i v) h) : GoD E X nt ops K ks T0 H0 fpr (⟨some i, op, ty, pos, af, none⟩ :: l) t h := GoD.p (stepF_ok hs) hK
theorem GoD.b (hs : stepF E.td t h i op = some ⟨rd, post, v⟩) (hK : GoD E X nt ops K ks T0 H0 ((rd, keys post) :: fpr) l (upd t i v) (updL h post)) : GoD E X nt ops K ks T0 H0 fpr (⟨some i, op, ty, pos, af, none⟩ :: l) t h := GoD.m (stepF_ok hs) hK

theorem OpL.boxw {E : Env} {T : Nat → AV} {H : Nat → HO} {ty : TypeId} {pos : String} {af : Array Edge} {g : Option (Nat × Bool)} {t : TypeId} {X : Operand} {x : AV} {i wd by_ : Nat} {kd : TK} {z : AV}
    (hx : ev T X = x) (ht : E.td t = ⟨kd, wd, by_, z⟩) (hs : x.plain = true) (hw : Nat.beq x.cells.length wd = true) (hf : H i = .free) : OpL E ⟨some i, .box t X, ty, pos, af, g⟩ T H [i] [(i, .arr t wd [x])] (.ptr i wd 0 0) := OpL.box (d := some i) hx hs (Nat.eq_of_beq_eq_true hw) hf
/-- A store of a whole element at a place that is known. -/
theorem OpL.stw {E : Env} {T : Nat → AV} {H : Nat → HO} {d : Option Tmp} {ty : TypeId} {pos : String} {af : Array Edge} {g : Option (Nat × Bool)} {t tt w id i : Nat} {X Y : Operand} {y : AV} {l l' : List AV}
    (hx : ev T X = .ptr id w i 0) (hy : ev T Y = y) (hH : H id = .arr tt w l) (hi : Nat.blt i l.length = true) (hys : y.solid = true) (hw : Nat.beq y.cells.length w = true) (ht : ((E.td t).kind.known && Nat.beq (E.td t).size w) = true) (hl : l.set i y = l') :
    OpL E ⟨d, .store t X Y, ty, pos, af, g⟩ T H [id] [(id, .arr tt w l')] .junk := by
  subst hl
  simp only [Bool.and_eq_true] at ht
  have e1 := Nat.eq_of_beq_eq_true hw
  have e2 := Nat.eq_of_beq_eq_true ht.2
  exact OpL.store hx hy hH rfl (Nat.lt_of_succ_le (Nat.le_of_ble_eq_true hi)) hys (TK.known_ne ht.1) (by rw [e1, e2]) (StoreV.whole rfl e1)
/-- A store of a part of a struct. -/
theorem OpL.stp {E : Env} {T : Nat → AV} {H : Nat → HO} {d : Option Tmp} {ty : TypeId} {pos : String} {af : Array Edge} {g : Option (Nat × Bool)} {t tt w id i o : Nat} {X Y : Operand} {x y : AV} {l cs zs : List AV}
    (hx : ev T X = .ptr id w i o) (hy : ev T Y = y) (hH : H id = .arr tt w l) (hi : l[i]? = some x) (hc : x = .agg cs) (hys : y.solid = true) (ht : ((E.td t).kind.known && Nat.beq (E.td t).size y.cells.length) = true)
    (ho : Nat.ble (o + y.cells.length) cs.length = true) (hz : cs.take o ++ y.cells ++ cs.drop (o + y.cells.length) = zs) : OpL E ⟨d, .store t X Y, ty, pos, af, g⟩ T H [id] [(id, .arr tt w (l.set i (.agg zs)))] .junk := by
  subst hz
  simp only [Bool.and_eq_true] at ht
  have e2 := Nat.eq_of_beq_eq_true ht.2
  have hi' : i < l.length := (List.getElem?_eq_some_iff.1 hi).1
  have hx' : l.getD i .junk = .agg cs := by rw [List.getD_eq_getElem?_getD, hi]; exact hc
  have hv : StoreV w (l.getD i .junk) o y ((l.getD i .junk).put o y) := StoreV.part cs hx' (Nat.le_of_ble_eq_true ho)
  have := OpL.store (E := E) (d := d) (ty := ty) (pos := pos) (af := af) (g := g) hx hy hH rfl hi' hys (TK.known_ne ht.1) (by rw [e2]) hv
  rw [hx'] at this
  exact this

theorem RetOK.hv {E : Env} {s : AS} {t : Tmp} {rs : List ResultVar} {v : AV} {vs : List AV} (hh : hn (s.t t) = some ⟨[], [], v⟩) (h' : RetOK E s rs vs) : RetOK E s (.tmp t :: rs) (v :: vs) := by
  have := hn_eq hh
  simp only [SR.mk.injEq, true_and] at this
  exact RetOK.tmp (Wk.of_eq this.symm) h'
/-! ### Guards -/
theorem GoOps.ung {o : Oper} {j dj : Nat} {want b : Bool} {s : AS} (hg : o.guard = some (j, want)) (hj : (ops[j]?).bind (·.dst) = some dj) (hlt : Nat.blt dj nt = true) (hb : s.t dj = .bool b) (hbw : b = want)
    (hK : GoOps E X nt ops (⟨o.dst, o.op, o.type, o.pos, o.after, none⟩ :: l) K s) : GoOps E X nt ops (o :: l) K s := by
  subst hbw
  refine ⟨fun hl Q' a w hQ hD => ?_⟩
  have h1 := hK.out hl Q' a w hQ hD
  obtain ⟨m, hD⟩ := hD
  have hy := yielded_of hD hj (Nat.le_of_ble_eq_true hlt) hb
  simp only [wpListIn, Region.wanted, if_true] at h1
  simp only [wpListIn, Region.wanted, hg, hy, beq_self_eq_true, if_true]
  exact h1

/-- An operation with its guard met. -/
theorem GoOps.u {j dj : Nat} {want b : Bool} {d : Option Tmp} (hj : (ops[j]?).bind (·.dst) = some dj) (hlt : Nat.blt dj nt = true) (hb : t dj = .bool b) (hbw : b = want)
    (hK : GoOps E X nt ops (⟨d, op, ty, pos, af, none⟩ :: l) K ⟨t, h, k⟩) : GoOps E X nt ops (⟨d, op, ty, pos, af, some (j, want)⟩ :: l) K ⟨t, h, k⟩ := GoOps.ung rfl hj hlt hb hbw hK
theorem GoOps.sd {j dj : Nat} {want : Bool} {p : Prop} [Decidable p] {d : Option Tmp} (hj : (ops[j]?).bind (·.dst) = some dj) (hb : t dj = .bool (decide p))
    (h1 : p → GoOps E X nt ops (⟨d, op, ty, pos, af, some (j, want)⟩ :: l) K ⟨upd t dj (.bool true), h, k⟩) (h2 : ¬ p → GoOps E X nt ops (⟨d, op, ty, pos, af, some (j, want)⟩ :: l) K ⟨upd t dj (.bool false), h, k⟩) :
    GoOps E X nt ops (⟨d, op, ty, pos, af, some (j, want)⟩ :: l) K ⟨t, h, k⟩ := by
  have e : ∀ b, t dj = .bool b → upd t dj (.bool b) = t := by
    intro b hb'
    funext i
    by_cases hi : i = dj
    · subst hi; rw [upd_same, hb']
    · rw [upd_ne _ _ _ _ hi]
  by_cases hp : p
  · have := h1 hp
    rw [decide_eq_true hp] at hb
    rwa [e _ hb] at this
  · have := h2 hp
    rw [decide_eq_false hp] at hb
    rwa [e _ hb] at this
theorem GoOps.sn {j dj : Nat} {want : Bool} {p : Prop} [Decidable p] {d : Option Tmp} (hj : (ops[j]?).bind (·.dst) = some dj) (hb : t dj = .bool (!decide p))
    (h1 : ¬ p → GoOps E X nt ops (⟨d, op, ty, pos, af, some (j, want)⟩ :: l) K ⟨upd t dj (.bool true), h, k⟩) (h2 : p → GoOps E X nt ops (⟨d, op, ty, pos, af, some (j, want)⟩ :: l) K ⟨upd t dj (.bool false), h, k⟩) :
    GoOps E X nt ops (⟨d, op, ty, pos, af, some (j, want)⟩ :: l) K ⟨t, h, k⟩ := GoOps.sd (p := ¬ p) hj (by rw [hb, decide_not]) h1 fun hp => h2 (Decidable.of_not_not hp)
theorem GoOps.sb {j dj : Nat} {want b : Bool} {d : Option Tmp} (hj : (ops[j]?).bind (·.dst) = some dj) (hb : t dj = .bool b)
    (h1 : b = true → GoOps E X nt ops (⟨d, op, ty, pos, af, some (j, want)⟩ :: l) K ⟨upd t dj (.bool true), h, k⟩) (h2 : b = false → GoOps E X nt ops (⟨d, op, ty, pos, af, some (j, want)⟩ :: l) K ⟨upd t dj (.bool false), h, k⟩) :
    GoOps E X nt ops (⟨d, op, ty, pos, af, some (j, want)⟩ :: l) K ⟨t, h, k⟩ := by
  have e : ∀ b, t dj = .bool b → upd t dj (.bool b) = t := by
    intro b hb'
    funext i
    by_cases hi : i = dj
    · subst hi; rw [upd_same, hb']
    · rw [upd_ne _ _ _ _ hi]
  cases b
  · have := h2 rfl
    rwa [e _ hb] at this
  · have := h1 rfl
    rwa [e _ hb] at this
theorem GoD.ga {j dj : Nat} {want b : Bool} (hj : (ops[j]?).bind (·.dst) = some dj) (hlt : Nat.blt dj nt = true) (hb : t dj = .bool b) (hbw : b = want) (hs : stepF E.td t h i op = some ⟨rd, [], v⟩)
    (hK : GoD E X nt ops K ks T0 H0 ((rd, []) :: fpr) l (upd t i v) h) : GoD E X nt ops K ks T0 H0 fpr (⟨some i, op, ty, pos, af, some (j, want)⟩ :: l) t h := GoD.gp hj hlt hb hbw (stepF_ok hs) hK
theorem GoD.sd {j dj : Nat} {want : Bool} {p : Prop} [Decidable p] {d : Option Tmp} (hj : (ops[j]?).bind (·.dst) = some dj) (hb : t dj = .bool (decide p))
    (h1 : p → GoD E X nt ops K ks T0 H0 fpr (⟨d, op, ty, pos, af, some (j, want)⟩ :: l) (upd t dj (.bool true)) h) (h2 : ¬ p → GoD E X nt ops K ks T0 H0 fpr (⟨d, op, ty, pos, af, some (j, want)⟩ :: l) (upd t dj (.bool false)) h) :
    GoD E X nt ops K ks T0 H0 fpr (⟨d, op, ty, pos, af, some (j, want)⟩ :: l) t h := by
  have e : ∀ b, t dj = .bool b → upd t dj (.bool b) = t := by
    intro b hb'
    funext i
    by_cases hi : i = dj
    · subst hi; rw [upd_same, hb']
    · rw [upd_ne _ _ _ _ hi]
  by_cases hp : p
  · have := h1 hp
    rw [decide_eq_true hp] at hb
    rwa [e _ hb] at this
  · have := h2 hp
    rw [decide_eq_false hp] at hb
    rwa [e _ hb] at this
theorem GoD.sn {j dj : Nat} {want : Bool} {p : Prop} [Decidable p] {d : Option Tmp} (hj : (ops[j]?).bind (·.dst) = some dj) (hb : t dj = .bool (!decide p))
    (h1 : ¬ p → GoD E X nt ops K ks T0 H0 fpr (⟨d, op, ty, pos, af, some (j, want)⟩ :: l) (upd t dj (.bool true)) h) (h2 : p → GoD E X nt ops K ks T0 H0 fpr (⟨d, op, ty, pos, af, some (j, want)⟩ :: l) (upd t dj (.bool false)) h) :
    GoD E X nt ops K ks T0 H0 fpr (⟨d, op, ty, pos, af, some (j, want)⟩ :: l) t h := GoD.sd (p := ¬ p) hj (by rw [hb, decide_not]) h1 fun hp => h2 (Decidable.of_not_not hp)
theorem GoD.sb {j dj : Nat} {want b : Bool} {d : Option Tmp} (hj : (ops[j]?).bind (·.dst) = some dj) (hb : t dj = .bool b)
    (h1 : b = true → GoD E X nt ops K ks T0 H0 fpr (⟨d, op, ty, pos, af, some (j, want)⟩ :: l) (upd t dj (.bool true)) h) (h2 : b = false → GoD E X nt ops K ks T0 H0 fpr (⟨d, op, ty, pos, af, some (j, want)⟩ :: l) (upd t dj (.bool false)) h) :
    GoD E X nt ops K ks T0 H0 fpr (⟨d, op, ty, pos, af, some (j, want)⟩ :: l) t h := by
  have e : ∀ b, t dj = .bool b → upd t dj (.bool b) = t := by
    intro b hb'
    funext i
    by_cases hi : i = dj
    · subst hi; rw [upd_same, hb']
    · rw [upd_ne _ _ _ _ hi]
  cases b
  · have := h2 rfl
    rwa [e _ hb] at this
  · have := h1 rfl
    rwa [e _ hb] at this
end
end Go.Proofs.YtfbjoamdkieamaaGreat.AM
end

section
namespace Go.Proofs.YtfbjoamdkieamaaGreat.AM
open Go
set_option maxRecDepth 100000
noncomputable def tab : List TD := [
  ⟨.other, 0, 0, .junk⟩,
  ⟨.func, 1, 8, .raw .nilFunc⟩,
  ⟨.int .i64, 1, 8, .int .i64 0⟩,
  ⟨.int .i64, 1, 8, .int .i64 0⟩,
  ⟨.bool, 1, 1, .bool false⟩,
  ⟨.int .u8, 1, 1, .int .u8 0⟩,
  ⟨.int .u8, 1, 1, .int .u8 0⟩,
  ⟨.struct [(0, 2), (1, 3), (2, 4), (3, 6)], 4, 24, .agg [.int .i64 0, .int .i64 0, .bool false, .int .u8 0]⟩,
  ⟨.struct [(0, 2), (1, 3), (2, 4), (3, 6)], 4, 24, .agg [.int .i64 0, .int .i64 0, .bool false, .int .u8 0]⟩,
  ⟨.string, 1, 16, .raw (.string ⟨#[]⟩)⟩,
  ⟨.string, 1, 16, .raw (.string ⟨#[]⟩)⟩,
  ⟨.string, 1, 16, .raw (.string ⟨#[]⟩)⟩,
  ⟨.int .u64, 1, 8, .int .u64 0⟩,
  ⟨.struct [(0, 9), (1, 12)], 2, 24, .agg [.raw (.string ⟨#[]⟩), .int .u64 0]⟩,
  ⟨.struct [(0, 9), (1, 12)], 2, 24, .agg [.raw (.string ⟨#[]⟩), .int .u64 0]⟩,
  ⟨.pointer 171, 1, 8, .raw (.pointer none)⟩,
  ⟨.pointer 174, 1, 8, .raw (.pointer none)⟩,
  ⟨.pointer 182, 1, 8, .raw (.pointer none)⟩,
  ⟨.struct [(0, 17)], 1, 8, .agg [.raw (.pointer none)]⟩,
  ⟨.struct [(0, 17)], 1, 8, .agg [.raw (.pointer none)]⟩,
  ⟨.iface, 1, 16, .raw .nilIface⟩,
  ⟨.int .i32, 1, 4, .int .i32 0⟩,
  ⟨.slice 75, 1, 24, .list true 2 []⟩,
  ⟨.struct [(0, 3), (1, 3)], 2, 16, .agg [.int .i64 0, .int .i64 0]⟩,
  ⟨.struct [(0, 3), (1, 3)], 2, 16, .agg [.int .i64 0, .int .i64 0]⟩,
  ⟨.struct [(0, 3), (1, 3), (2, 22), (3, 3), (4, 3), (5, 24), (7, 24)], 9, 88, .agg [.int .i64 0, .int .i64 0, .list true 2 [], .int .i64 0, .int .i64 0, .int .i64 0, .int .i64 0, .int .i64 0, .int .i64 0]⟩,
  ⟨.struct [(0, 3), (1, 3), (2, 22), (3, 3), (4, 3), (5, 24), (7, 24)], 9, 88, .agg [.int .i64 0, .int .i64 0, .list true 2 [], .int .i64 0, .int .i64 0, .int .i64 0, .int .i64 0, .int .i64 0, .int .i64 0]⟩,
  ⟨.slice 3, 1, 24, .list true 1 []⟩,
  ⟨.slice 36, 1, 24, .list true 3 []⟩,
  ⟨.struct [(0, 26), (9, 3), (10, 27), (11, 28)], 12, 144, .agg [.int .i64 0, .int .i64 0, .list true 2 [], .int .i64 0, .int .i64 0, .int .i64 0, .int .i64 0, .int .i64 0, .int .i64 0, .int .i64 0, .list true 1 [], .list true 3 []]⟩,
  ⟨.struct [(0, 26), (9, 3), (10, 27), (11, 28)], 12, 144, .agg [.int .i64 0, .int .i64 0, .list true 2 [], .int .i64 0, .int .i64 0, .int .i64 0, .int .i64 0, .int .i64 0, .int .i64 0, .int .i64 0, .list true 1 [], .list true 3 []]⟩,
  ⟨.struct [(0, 3), (1, 3), (2, 3)], 3, 24, .agg [.int .i64 0, .int .i64 0, .int .i64 0]⟩,
  ⟨.struct [(0, 3), (1, 3), (2, 3)], 3, 24, .agg [.int .i64 0, .int .i64 0, .int .i64 0]⟩,
  ⟨.func, 1, 8, .raw .nilFunc⟩,
  ⟨.func, 1, 8, .raw .nilFunc⟩,
  ⟨.struct [(0, 3), (1, 3), (2, 3)], 3, 24, .agg [.int .i64 0, .int .i64 0, .int .i64 0]⟩,
  ⟨.struct [(0, 3), (1, 3), (2, 3)], 3, 24, .agg [.int .i64 0, .int .i64 0, .int .i64 0]⟩,
  ⟨.func, 1, 8, .raw .nilFunc⟩,
  ⟨.int .i64, 1, 8, .int .i64 0⟩,
  ⟨.other, 0, 0, .junk⟩,
  ⟨.func, 1, 8, .raw .nilFunc⟩,
  ⟨.other, 0, 0, .junk⟩,
  ⟨.func, 1, 8, .raw .nilFunc⟩,
  ⟨.func, 1, 8, .raw .nilFunc⟩,
  ⟨.other, 0, 0, .junk⟩,
  ⟨.func, 1, 8, .raw .nilFunc⟩,
  ⟨.func, 1, 8, .raw .nilFunc⟩,
  ⟨.func, 1, 8, .raw .nilFunc⟩,
  ⟨.func, 1, 8, .raw .nilFunc⟩,
  ⟨.func, 1, 8, .raw .nilFunc⟩,
  ⟨.func, 1, 8, .raw .nilFunc⟩,
  ⟨.func, 1, 8, .raw .nilFunc⟩,
  ⟨.func, 1, 8, .raw .nilFunc⟩,
  ⟨.func, 1, 8, .raw .nilFunc⟩,
  ⟨.func, 1, 8, .raw .nilFunc⟩,
  ⟨.func, 1, 8, .raw .nilFunc⟩,
  ⟨.func, 1, 8, .raw .nilFunc⟩,
  ⟨.pointer 63, 1, 8, .raw (.pointer none)⟩,
  ⟨.other, 0, 0, .junk⟩,
  ⟨.func, 1, 8, .raw .nilFunc⟩,
  ⟨.slice 27, 1, 24, .list true 1 []⟩,
  ⟨.map 3 3, 1, 8, .raw (.map none)⟩,
  ⟨.struct [(0, 30), (12, 27), (13, 60), (14, 61)], 15, 200, .agg [.int .i64 0, .int .i64 0, .list true 2 [], .int .i64 0, .int .i64 0, .int .i64 0, .int .i64 0, .int .i64 0, .int .i64 0, .int .i64 0, .list true 1 [], .list true 3 [], .list true 1 [], .list true 1 [], .raw (.map none)]⟩,
  ⟨.struct [(0, 30), (12, 27), (13, 60), (14, 61)], 15, 200, .agg [.int .i64 0, .int .i64 0, .list true 2 [], .int .i64 0, .int .i64 0, .int .i64 0, .int .i64 0, .int .i64 0, .int .i64 0, .int .i64 0, .list true 1 [], .list true 3 [], .list true 1 [], .list true 1 [], .raw (.map none)]⟩,
  ⟨.func, 1, 8, .raw .nilFunc⟩,
  ⟨.func, 1, 8, .raw .nilFunc⟩,
  ⟨.func, 1, 8, .raw .nilFunc⟩,
  ⟨.map 3 36, 1, 8, .raw (.map none)⟩,
  ⟨.map 36 3, 1, 8, .raw (.map none)⟩,
  ⟨.struct [(0, 67), (1, 68)], 2, 16, .agg [.raw (.map none), .raw (.map none)]⟩,
  ⟨.struct [(0, 67), (1, 68)], 2, 16, .agg [.raw (.map none), .raw (.map none)]⟩,
  ⟨.func, 1, 8, .raw .nilFunc⟩,
  ⟨.func, 1, 8, .raw .nilFunc⟩,
  ⟨.func, 1, 8, .raw .nilFunc⟩,
  ⟨.struct [(0, 3), (1, 3)], 2, 16, .agg [.int .i64 0, .int .i64 0]⟩,
  ⟨.struct [(0, 3), (1, 3)], 2, 16, .agg [.int .i64 0, .int .i64 0]⟩,
  ⟨.func, 1, 8, .raw .nilFunc⟩,
  ⟨.func, 1, 8, .raw .nilFunc⟩,
  ⟨.func, 1, 8, .raw .nilFunc⟩,
  ⟨.func, 1, 8, .raw .nilFunc⟩,
  ⟨.struct [(0, 27), (1, 60), (2, 27)], 3, 72, .agg [.list true 1 [], .list true 1 [], .list true 1 []]⟩,
  ⟨.struct [(0, 27), (1, 60), (2, 27)], 3, 72, .agg [.list true 1 [], .list true 1 [], .list true 1 []]⟩,
  ⟨.func, 1, 8, .raw .nilFunc⟩,
  ⟨.func, 1, 8, .raw .nilFunc⟩,
  ⟨.func, 1, 8, .raw .nilFunc⟩,
  ⟨.func, 1, 8, .raw .nilFunc⟩,
  ⟨.func, 1, 8, .raw .nilFunc⟩,
  ⟨.slice 90, 1, 24, .list true 2 []⟩,
  ⟨.func, 1, 8, .raw .nilFunc⟩,
  ⟨.struct [(0, 3), (1, 3)], 2, 16, .agg [.int .i64 0, .int .i64 0]⟩,
  ⟨.struct [(0, 3), (1, 3)], 2, 16, .agg [.int .i64 0, .int .i64 0]⟩,
  ⟨.func, 1, 8, .raw .nilFunc⟩,
  ⟨.func, 1, 8, .raw .nilFunc⟩,
  ⟨.func, 1, 8, .raw .nilFunc⟩,
  ⟨.func, 1, 8, .raw .nilFunc⟩,
  ⟨.slice 28, 1, 24, .list true 1 []⟩,
  ⟨.func, 1, 8, .raw .nilFunc⟩,
  ⟨.func, 1, 8, .raw .nilFunc⟩,
  ⟨.func, 1, 8, .raw .nilFunc⟩,
  ⟨.func, 1, 8, .raw .nilFunc⟩,
  ⟨.func, 1, 8, .raw .nilFunc⟩,
  ⟨.func, 1, 8, .raw .nilFunc⟩,
  ⟨.func, 1, 8, .raw .nilFunc⟩,
  ⟨.struct [(0, 26)], 9, 88, .agg [.int .i64 0, .int .i64 0, .list true 2 [], .int .i64 0, .int .i64 0, .int .i64 0, .int .i64 0, .int .i64 0, .int .i64 0]⟩,
  ⟨.struct [(0, 26)], 9, 88, .agg [.int .i64 0, .int .i64 0, .list true 2 [], .int .i64 0, .int .i64 0, .int .i64 0, .int .i64 0, .int .i64 0, .int .i64 0]⟩,
  ⟨.other, 0, 0, .junk⟩,
  ⟨.func, 1, 8, .raw .nilFunc⟩,
  ⟨.func, 1, 8, .raw .nilFunc⟩,
  ⟨.func, 1, 8, .raw .nilFunc⟩,
  ⟨.func, 1, 8, .raw .nilFunc⟩,
  ⟨.func, 1, 8, .raw .nilFunc⟩,
  ⟨.other, 0, 0, .junk⟩,
  ⟨.func, 1, 8, .raw .nilFunc⟩,
  ⟨.func, 1, 8, .raw .nilFunc⟩,
  ⟨.pointer 27, 1, 8, .raw (.pointer none)⟩,
  ⟨.func, 1, 8, .raw .nilFunc⟩,
  ⟨.func, 1, 8, .raw .nilFunc⟩,
  ⟨.int .u64, 1, 8, .int .u64 0⟩,
  ⟨.func, 1, 8, .raw .nilFunc⟩,
  ⟨.func, 1, 8, .raw .nilFunc⟩,
  ⟨.func, 1, 8, .raw .nilFunc⟩,
  ⟨.func, 1, 8, .raw .nilFunc⟩,
  ⟨.func, 1, 8, .raw .nilFunc⟩,
  ⟨.func, 1, 8, .raw .nilFunc⟩,
  ⟨.struct [(0, 3), (1, 3), (2, 3), (3, 3), (4, 3)], 5, 40, .agg [.int .i64 0, .int .i64 0, .int .i64 0, .int .i64 0, .int .i64 0]⟩,
  ⟨.struct [(0, 3), (1, 3), (2, 3), (3, 3), (4, 3)], 5, 40, .agg [.int .i64 0, .int .i64 0, .int .i64 0, .int .i64 0, .int .i64 0]⟩,
  ⟨.func, 1, 8, .raw .nilFunc⟩,
  ⟨.func, 1, 8, .raw .nilFunc⟩,
  ⟨.func, 1, 8, .raw .nilFunc⟩,
  ⟨.func, 1, 8, .raw .nilFunc⟩,
  ⟨.func, 1, 8, .raw .nilFunc⟩,
  ⟨.func, 1, 8, .raw .nilFunc⟩,
  ⟨.func, 1, 8, .raw .nilFunc⟩,
  ⟨.func, 1, 8, .raw .nilFunc⟩,
  ⟨.int .i64, 1, 8, .int .i64 0⟩,
  ⟨.other, 0, 0, .junk⟩,
  ⟨.func, 1, 8, .raw .nilFunc⟩,
  ⟨.func, 1, 8, .raw .nilFunc⟩,
  ⟨.func, 1, 8, .raw .nilFunc⟩,
  ⟨.func, 1, 8, .raw .nilFunc⟩,
  ⟨.int .u32, 1, 4, .int .u32 0⟩,
  ⟨.func, 1, 8, .raw .nilFunc⟩,
  ⟨.int .u64, 1, 8, .int .u64 0⟩,
  ⟨.func, 1, 8, .raw .nilFunc⟩,
  ⟨.func, 1, 8, .raw .nilFunc⟩,
  ⟨.func, 1, 8, .raw .nilFunc⟩,
  ⟨.func, 1, 8, .raw .nilFunc⟩,
  ⟨.func, 1, 8, .raw .nilFunc⟩,
  ⟨.func, 1, 8, .raw .nilFunc⟩,
  ⟨.struct [(0, 3), (1, 3), (2, 3)], 3, 24, .agg [.int .i64 0, .int .i64 0, .int .i64 0]⟩,
  ⟨.struct [(0, 3), (1, 3), (2, 3)], 3, 24, .agg [.int .i64 0, .int .i64 0, .int .i64 0]⟩,
  ⟨.slice 150, 1, 24, .list true 3 []⟩,
  ⟨.func, 1, 8, .raw .nilFunc⟩,
  ⟨.int .u64, 1, 8, .int .u64 0⟩,
  ⟨.func, 1, 8, .raw .nilFunc⟩,
  ⟨.func, 1, 8, .raw .nilFunc⟩,
  ⟨.func, 1, 8, .raw .nilFunc⟩,
  ⟨.pointer 3, 1, 8, .raw (.pointer none)⟩,
  ⟨.func, 1, 8, .raw .nilFunc⟩,
  ⟨.func, 1, 8, .raw .nilFunc⟩,
  ⟨.func, 1, 8, .raw .nilFunc⟩,
  ⟨.func, 1, 8, .raw .nilFunc⟩,
  ⟨.func, 1, 8, .raw .nilFunc⟩,
  ⟨.pointer 153, 1, 8, .raw (.pointer none)⟩,
  ⟨.other, 0, 0, .junk⟩,
  ⟨.func, 1, 8, .raw .nilFunc⟩,
  ⟨.func, 1, 8, .raw .nilFunc⟩,
  ⟨.func, 1, 8, .raw .nilFunc⟩,
  ⟨.func, 1, 8, .raw .nilFunc⟩,
  ⟨.func, 1, 8, .raw .nilFunc⟩,
  ⟨.struct [(0, 17), (1, 17), (2, 17), (3, 9)], 4, 40, .agg [.raw (.pointer none), .raw (.pointer none), .raw (.pointer none), .raw (.string ⟨#[]⟩)]⟩,
  ⟨.struct [(0, 17), (1, 17), (2, 17), (3, 9)], 4, 40, .agg [.raw (.pointer none), .raw (.pointer none), .raw (.pointer none), .raw (.string ⟨#[]⟩)]⟩,
  ⟨.array 0 16, 0, 0, .agg []⟩,
  ⟨.struct [(0, 172)], 0, 0, .agg []⟩,
  ⟨.struct [(0, 172)], 0, 0, .agg []⟩,
  ⟨.int .u8, 1, 1, .int .u8 0⟩,
  ⟨.int .u8, 1, 1, .int .u8 0⟩,
  ⟨.func, 1, 8, .raw .nilFunc⟩,
  ⟨.pointer 5, 1, 8, .raw (.pointer none)⟩,
  ⟨.int .i32, 1, 4, .int .i32 0⟩,
  ⟨.int .i32, 1, 4, .int .i32 0⟩,
  ⟨.struct [(0, 12), (1, 12), (2, 140), (3, 175), (4, 5), (5, 5), (6, 176), (7, 177), (8, 178), (9, 179), (10, 180)], 11, 48, .agg [.int .u64 0, .int .u64 0, .int .u32 0, .int .u8 0, .int .u8 0, .int .u8 0, .int .u8 0, .raw .nilFunc, .raw (.pointer none), .int .i32 0, .int .i32 0]⟩,
  ⟨.struct [(0, 12), (1, 12), (2, 140), (3, 175), (4, 5), (5, 5), (6, 176), (7, 177), (8, 178), (9, 179), (10, 180)], 11, 48, .agg [.int .u64 0, .int .u64 0, .int .u32 0, .int .u8 0, .int .u8 0, .int .u8 0, .int .u8 0, .raw .nilFunc, .raw (.pointer none), .int .i32 0, .int .i32 0]⟩,
  ⟨.other, 0, 0, .junk⟩
  ]
noncomputable def tabAll : Nat → List TD → Bool
  | _, [] => true
  | t, d :: r => (d.kind == .other || TDok Tryz.prog t d) && tabAll (t + 1) r
theorem tabAll_get : ∀ (l : List TD) (k : Nat), tabAll k l = true → ∀ t d, l[t]? = some d → d.kind = .other ∨ TDok Tryz.prog (k + t) d = true
  | [], _, _, t, d, h => by simp at h
  | x :: l, k, h, 0, d, hd => by
    simp only [tabAll, Bool.and_eq_true, Bool.or_eq_true, beq_iff_eq] at h
    simp at hd
    subst hd
    exact h.1
  | x :: l, k, h, t + 1, d, hd => by
    simp only [tabAll, Bool.and_eq_true] at h
    have := tabAll_get l (k + 1) h.2 t d (by simpa using hd)
    rwa [show k + 1 + t = k + (t + 1) from by omega] at this
theorem tab_ok : tabAll 0 tab = true := by kernel_rfl
/-- The program of this seat, with its types. -/
noncomputable def env : Env := { P := Tryz.prog, tab := tab, ok := fun t d h => by have := tabAll_get tab 0 tab_ok t d h; rwa [Nat.zero_add] at this }
theorem env_mixed : env.P.follows .mixedOrders = true := by kernel_rfl
end Go.Proofs.YtfbjoamdkieamaaGreat.AM
end

section
set_option linter.unusedSimpArgs false
set_option linter.unusedVariables false
namespace Go.Proofs.YtfbjoamdkieamaaGreat.AM
open Go

/-- A value, where the objects of S are read alone from now on. -/
inductive Fz (H : Nat → HO) (S : List Nat) : AV → AV → Prop where
  | same (x : AV) : Fz H S x x
  | sl {c : Bool} {id t w off len : Nat} {l : List AV} (hS : id ∈ S) (hH : H id = .arr t w l) (hn : ∀ x ∈ l, x.noId = true) (h : off + len ≤ l.length) : Fz H S (.sl c id w off len) (.list c w ((l.drop off).take len))
  | all {c : Bool} {id t w len : Nat} {l : List AV} (hS : id ∈ S) (hH : H id = .arr t w l) (hn : ∀ x ∈ l, x.noId = true) (h : len = l.length) : Fz H S (.sl c id w 0 len) (.list c w l)
  | ptr {id t w i o : Nat} {l : List AV} (hS : id ∈ S) (hH : H id = .arr t w l) (hn : ∀ x ∈ l, x.noId = true) (h : i < l.length) : Fz H S (.ptr id w i o) (.ref (l.getD i .junk) o)
  | agg1 {x y : AV} {xs ys : List AV} (h : Fz H S x y) (h' : Fz H S (.agg xs) (.agg ys)) : Fz H S (.agg (x :: xs)) (.agg (y :: ys))
  | fn1 {f : Fn} {x y : AV} (h : Fz H S x y) : Fz H S (.fn f [] [x]) (.fn f [] [y])

def inS (S : List Nat) (H : Nat → HO) (m : Mem) (b : Nat) : Prop := ∃ id L, id ∈ S ∧ (H id).live = true ∧ m.at_ id = some (some L) ∧ L.blk = b

open Classical in
noncomputable def Mem.frz (m : Mem) (S : List Nat) (H : Nat → HO) (w : World) : Mem := ⟨fun b => if inS S H m b then w.heap[b]? else m.ro b, m.at_⟩

section
variable {r0 : Nat → Option Obj} {w0 w : World} {mu : Nat → Prop} {m : Mem} {H : Nat → HO} {S : List Nat}

theorem MemOK.frz_in (hM : MemOK r0 w0 mu m H w) {b : Nat} (h : inS S H m b) : m.ro b = none ∧ (b < w0.heap.size → mu b) := by
  obtain ⟨id, L, _, hl, hL, rfl⟩ := h
  exact hM.mine id L hl hL

theorem MemOK.frz_le (hM : MemOK r0 w0 mu m H w) : m.le (m.frz S H w) := by
  refine ⟨fun b o h => ?_, fun _ _ h => h⟩
  simp only [Mem.frz]
  split
  · rename_i h'
    rw [(hM.frz_in h').1] at h; cases h
  · exact h

theorem MemOK.frz_ro (hM : MemOK r0 w0 mu m H w) (b : Nat) (o : Obj) (h : (m.frz S H w).ro b = some o) : w.heap[b]? = some o := by
  simp only [Mem.frz] at h
  split at h
  · exact h
  · exact hM.ro b o h

theorem MemOK.frz_cells (hM : MemOK r0 w0 mu m H w) {id t wd : Nat} {l : List AV} (hS : id ∈ S) (hH : H id = .arr t wd l) {L : Loc} (hL : m.at_ id = some (some L)) :
    ∃ cs, (m.frz S H w).ro L.blk = some (.cells cs t (0, 0)) ∧ cs.size = L.cap * wd ∧ l.length ≤ L.cap ∧ RRow m cs wd 0 l := by
  have hob := hM.obj id
  rw [hH] at hob
  obtain ⟨ol, h1, h2, h3⟩ := hob
  rw [hL] at h1
  obtain ⟨cs, h4, h5⟩ := h3 L (Option.some.inj h1).symm
  refine ⟨cs, ?_, h5⟩
  have : inS S H m L.blk := ⟨id, L, hS, by rw [hH]; rfl, hL, rfl⟩
  simp only [Mem.frz, if_pos this, h4]

theorem RRow_noId {m m' : Mem} (hro : ∀ b o, m.ro b = some o → m'.ro b = some o) {arr : Array Value} {w o : Nat} {l : List AV} (hn : ∀ x ∈ l, x.noId = true) (h : RRow m arr w o l) : RRow m' arr w o l :=
  RRow_mem rfl (fun i hi v hv => R_noId hro _ v (by rw [gd hi]; exact hn _ (List.getElem_mem hi)) hv) h

theorem MemOK.frz_sl (hM : MemOK r0 w0 mu m H w) {c : Bool} {id t wd off len : Nat} {l : List AV} (hS : id ∈ S) (hH : H id = .arr t wd l) (hn : ∀ x ∈ l, x.noId = true) (h : off + len ≤ l.length) {v : Value}
    (hv : R m (.sl c id wd off len) v) : R (m.frz S H w) (.list c wd ((l.drop off).take len)) v := by
  have hlen : ((l.drop off).take len).length = len := by simp; omega
  obtain ⟨ol, h1, h2, h3⟩ := hv
  cases ol with
  | none =>
    obtain ⟨rfl, rfl, rfl⟩ := h2
    refine ⟨none, 0, by rw [hlen], by simp, by simp [maxLen], fun _ _ => ⟨rfl, rfl⟩, fun hne => ?_⟩
    exact absurd (List.eq_nil_of_length_eq_zero hlen) hne
  | some L =>
    obtain ⟨ad, rfl, h4, h5, h6⟩ := h2
    obtain ⟨cs, h7, h8, h9, h10⟩ := hM.frz_cells hS hH h1
    refine ⟨some ad, L.cap - off, by rw [hlen], by rw [hlen]; omega, by omega, fun hc he => ?_, fun hne => ?_⟩
    · exfalso
      have : len = 0 := by rw [← hlen, he]; rfl
      have := h3 hc this
      simp at this
    · have : 0 < len := by
        rcases Nat.eq_zero_or_pos len with h | h
        · exact absurd (List.eq_nil_of_length_eq_zero (by rw [hlen, h])) hne
        · exact h
      refine ⟨L.blk, off * wd, cs, t, (0, 0), by rw [h6 (by omega)], h7, ?_⟩
      have h11 := RRow_take (RRow_drop h10 off) len
      rw [Nat.zero_add] at h11
      exact RRow_noId (m := m) (m' := (m.frz S H w).noat) (fun b o h => (hM.frz_le (S := S)).ro b o h) (fun x hx => hn x (List.mem_of_mem_drop (List.mem_of_mem_take hx))) h11

theorem MemOK.frz_R (hM : MemOK r0 w0 mu m H w) : ∀ {x y : AV}, Fz H S x y → ∀ v, R m x v → R (m.frz S H w) y v := by
  intro x y h
  induction h with
  | same x => exact fun v hv => R.mono hM.frz_le _ _ hv
  | sl hS hH hn h => exact fun v hv => hM.frz_sl hS hH hn h hv
  | @all c id t wd len l hS hH hn h =>
    intro v hv
    have := hM.frz_sl (off := 0) hS hH hn (by omega) hv
    rw [List.drop_zero, List.take_of_length_le (by omega)] at this
    exact this
  | @ptr id t wd i o l hS hH hn h =>
    intro v hv
    obtain ⟨L, h1, rfl⟩ := hv
    obtain ⟨cs, h7, h8, h9, h10⟩ := hM.frz_cells hS hH h1
    obtain ⟨u, h11, h12⟩ := RRow_get h10 i h
    rw [Nat.zero_add] at h12
    have hsz := h12.1
    refine ⟨L.blk, i * wd, cs, t, (0, 0), u, rfl, h7, ?_, by rw [hsz]; exact h12⟩
    exact R_noId (m := m) (m' := (m.frz S H w).noat) (fun b o h => (hM.frz_le (S := S)).ro b o h) _ _ (by rw [gd h]; exact hn _ (List.getElem_mem h)) h11
  | agg1 _ _ ih ih' =>
    rintro v ⟨vs, rfl, v1, vs1, rfl, h1, h2⟩
    obtain ⟨vs2, h3, h4⟩ := ih' (.agg vs1.toArray) ⟨vs1, rfl, h2⟩
    have : vs1 = vs2 := by
      have := congrArg (fun v => match v with | Value.agg a => a.toList | _ => []) h3
      simpa using this
    subst this
    exact ⟨_, rfl, v1, vs1, rfl, ih v1 h1, h4⟩
  | fn1 _ ih =>
    rintro v ⟨fs, cs, rfl, h1, v1, vs1, rfl, h2, h3⟩
    exact ⟨fs, _, rfl, h1, v1, vs1, rfl, ih v1 h2, h3⟩

def FzL (s : AS) (S : List Nat) : List (Nat × AV) → Prop
  | [] => True
  | (d, v) :: r => Fz s.h S (s.t d) v ∧ FzL s S r

theorem FzL.get {s : AS} {S : List Nat} : ∀ {l : List (Nat × AV)}, FzL s S l → ∀ p ∈ l, Fz s.h S (s.t p.1) p.2
  | [], _, p, hp => by simp at hp
  | (i, v) :: r, ⟨h1, h2⟩, p, hp => by
    rcases List.mem_cons.1 hp with rfl | hp
    · exact h1
    · exact FzL.get h2 p hp

theorem updL_mem {α : Type} {f : Nat → α} : ∀ {l : List (Nat × α)} {i : Nat}, updL f l i = f i ∨ (i, updL f l i) ∈ l
  | [], i => .inl rfl
  | (j, x) :: r, i => by
    have ih : updL f r i = f i ∨ (i, updL f r i) ∈ r := updL_mem
    by_cases h : i = j
    · subst h; exact .inr (by simp [updL, upd])
    · have e : updL f ((j, x) :: r) i = updL f r i := by simp only [updL]; rw [upd_ne _ _ _ _ h]
      rw [e]
      rcases ih with h' | h'
      · exact .inl h'
      · exact .inr (List.mem_cons_of_mem _ h')

/-- The objects of S are read alone from now on. -/
theorem AS.sub.frz {s : AS} (S : List Nat) (ds : List (Nat × AV)) (hd : FzL s S ds) : s.sub ⟨updL s.t ds, updL s.h (S.map fun i => (i, .dead)), s.k⟩ := by
  refine ⟨fun X nt a w ⟨m, hD⟩ => ?_⟩
  have hM := hD.mem
  have hle := hM.frz_le (S := S)
  have hdead : ∀ i, (updL s.h (S.map fun i => (i, HO.dead)) i = s.h i ∧ i ∉ S) ∨ (updL s.h (S.map fun i => (i, HO.dead)) i = .dead) := by
    intro i
    by_cases hi : i ∈ S
    · right
      have hk : i ∈ keys (S.map fun i => (i, HO.dead)) := by simpa [keys, List.map_map, Function.comp_def] using hi
      rcases updL_mem (f := fun _ => HO.dead) (l := S.map fun i => (i, HO.dead)) (i := i) with h | h
      · rw [updL_in hk, h]
      · rw [updL_in (f' := fun _ => HO.dead) hk]
        obtain ⟨j, _, hj⟩ := List.mem_map.1 h
        exact (Prod.mk.inj hj).2.symm
    · left
      exact ⟨updL_not (by simpa [keys, List.map_map, Function.comp_def] using hi), hi⟩
  have hlv : ∀ i, (updL s.h (S.map fun i => (i, HO.dead)) i).live = true → (s.h i).live = true ∧ i ∉ S := by
    intro i h
    rcases hdead i with ⟨h1, h2⟩ | h1
    · rw [h1] at h; exact ⟨h, h2⟩
    · rw [h1] at h; simp [HO.live] at h
  refine ⟨m.frz S s.h w, hD.size, hD.defers.mono hle.ro, hD.le.trans hle, hD.ids, fun i => ?_, ?_⟩
  · show R _ (updL s.t ds i) _
    rcases updL_mem (f := s.t) (l := ds) (i := i) with h | h
    · rw [h]; exact R.mono hle _ _ (hD.tmps i)
    · exact hM.frz_R (hd.get _ h) _ (hD.tmps i)
  · exact {
      os := hM.os
      tape := hM.tape
      output := hM.output
      size := hM.size
      block := hM.block
      ro := hM.frz_ro
      told := fun b o h => by
        simp only [Mem.frz] at h
        split at h
        · rename_i h'
          by_cases hb : b < X.w0.heap.size
          · exact .inr (.inr ((hM.frz_in h').2 hb))
          · exact .inr (.inl (Nat.not_lt.1 hb))
        · exact hM.told b o h
      obj := fun i => by
        show HOok _ w i (updL s.h _ i)
        rcases hdead i with ⟨h1, h2⟩ | h1
        · rw [h1]; exact HOok.mono hle rfl (fun _ _ _ => rfl) (hM.obj i)
        · rw [h1]; trivial
      mine := fun i L hl hL => by
        obtain ⟨h1, h2⟩ := hlv i hl
        refine ⟨?_, (hM.mine i L h1 hL).2⟩
        have : ¬ inS S s.h m L.blk := by
          rintro ⟨j, L', hj, hj1, hj2, hj3⟩
          exact hM.apart j i L' L (fun h => h2 (h ▸ hj)) hj1 h1 hj2 hL hj3
        simp only [Mem.frz, if_neg this]
        exact (hM.mine i L h1 hL).1
      apart := fun i j L L' hij hl hl' hL hL' => hM.apart i j L L' hij (hlv i hl).1 (hlv j hl').1 hL hL' }
/-- The elements of a row, where the objects of S are read alone from now on. -/
inductive ElF (H : Nat → HO) (S : List Nat) : List AV → List AV → Prop where
  | same (l : List AV) : ElF H S l l
  | cons {x y : AV} {xs ys : List AV} (h : Fz H S x y) (h' : ElF H S xs ys) : ElF H S (x :: xs) (y :: ys)
  | app {a a' b b' : List AV} (h : ElF H S a a') (h' : ElF H S b b') : ElF H S (a ++ b) (a' ++ b')

theorem ElF.get {r0 : Nat → Option Obj} {w0 w : World} {mu : Nat → Prop} {m : Mem} {H : Nat → HO} {S : List Nat} (hM : MemOK r0 w0 mu m H w) : ∀ {l l' : List AV}, ElF H S l l' →
    l.length = l'.length ∧ ∀ i v, i < l.length → R m (l.getD i .junk) v → R (m.frz S H w) (l'.getD i .junk) v := by
  intro l l' h
  induction h with
  | same l => exact ⟨rfl, fun i v _ hv => R.mono hM.frz_le _ _ hv⟩
  | cons h _ ih =>
    refine ⟨by simp [ih.1], fun i v hi hv => ?_⟩
    cases i with
    | zero => exact hM.frz_R h v (by simpa using hv)
    | succ i => simpa using ih.2 i v (by simpa using hi) (by simpa using hv)
  | @app a a' b b' _ _ ih ih' =>
    refine ⟨by simp [ih.1, ih'.1], fun i v hi hv => ?_⟩
    rw [List.getD_eq_getElem?_getD] at hv ⊢
    by_cases h : i < a.length
    · rw [List.getElem?_append_left h] at hv
      rw [List.getElem?_append_left (by rw [← ih.1]; exact h)]
      have := ih.2 i v h (by rw [List.getD_eq_getElem?_getD]; exact hv)
      rwa [List.getD_eq_getElem?_getD] at this
    · rw [List.getElem?_append_right (by omega)] at hv
      rw [List.getElem?_append_right (by rw [← ih.1]; omega), ← ih.1]
      have := ih'.2 (i - a.length) v (by simp at hi; omega) (by rw [List.getD_eq_getElem?_getD]; exact hv)
      rwa [List.getD_eq_getElem?_getD] at this

def FzO (s : AS) (S : List Nat) : List (Nat × HO) → Prop
  | [] => True
  | (i, .arr t w l') :: r => (i ∉ S ∧ ∃ l, s.h i = .arr t w l ∧ ElF s.h S l l') ∧ FzO s S r
  | _ => False

theorem FzO.get {s : AS} {S : List Nat} : ∀ {l : List (Nat × HO)}, FzO s S l → ∀ p ∈ l, ∃ t w l', p.2 = .arr t w l' ∧ p.1 ∉ S ∧ ∃ l, s.h p.1 = .arr t w l ∧ ElF s.h S l l'
  | [], _, p, hp => by simp at hp
  | (i, .arr t w l') :: r, ⟨⟨h0, h1⟩, h2⟩, p, hp => by
    rcases List.mem_cons.1 hp with rfl | hp
    · exact ⟨t, w, l', rfl, h0, h1⟩
    · exact FzO.get h2 p hp
  | (i, .dead) :: r, h, p, hp => h.elim
  | (i, .free) :: r, h, p, hp => h.elim
  | (i, .map _) :: r, h, p, hp => h.elim
  | (i, .iter ..) :: r, h, p, hp => h.elim
  | (i, .loop ..) :: r, h, p, hp => h.elim

/-- The objects of S are read alone from now on, in the temporaries and in other objects. -/
theorem AS.sub.frzo {s : AS} (S : List Nat) (ds : List (Nat × AV)) (os : List (Nat × HO)) (hd : FzL s S ds) (ho : FzO s S os) : s.sub ⟨updL s.t ds, updL (updL s.h (S.map fun i => (i, .dead))) os, s.k⟩ := by
  refine ⟨fun X nt a w ⟨m, hD⟩ => ?_⟩
  have hM := hD.mem
  have hle := hM.frz_le (S := S)
  have hdead : ∀ i, (updL s.h (S.map fun i => (i, HO.dead)) i = s.h i ∧ i ∉ S) ∨ (updL s.h (S.map fun i => (i, HO.dead)) i = .dead) := by
    intro i
    by_cases hi : i ∈ S
    · right
      have hk : i ∈ keys (S.map fun i => (i, HO.dead)) := by simpa [keys, List.map_map, Function.comp_def] using hi
      rcases updL_mem (f := fun _ => HO.dead) (l := S.map fun i => (i, HO.dead)) (i := i) with h | h
      · rw [updL_in hk, h]
      · rw [updL_in (f' := fun _ => HO.dead) hk]
        obtain ⟨j, _, hj⟩ := List.mem_map.1 h
        exact (Prod.mk.inj hj).2.symm
    · left
      exact ⟨updL_not (by simpa [keys, List.map_map, Function.comp_def] using hi), hi⟩
  generalize hh1 : updL s.h (S.map fun i => (i, HO.dead)) = h1 at *
  have hcase : ∀ i, (updL h1 os i = s.h i ∧ i ∉ S) ∨ updL h1 os i = .dead ∨ ∃ t wd l l', updL h1 os i = .arr t wd l' ∧ i ∉ S ∧ s.h i = .arr t wd l ∧ ElF s.h S l l' := by
    intro i
    rcases updL_mem (f := h1) (l := os) (i := i) with h | h
    · rw [h]
      rcases hdead i with h | h
      · exact .inl h
      · exact .inr (.inl h)
    · obtain ⟨t, wd, l', h2, h3, l, h4, h5⟩ := ho.get _ h
      exact .inr (.inr ⟨t, wd, l, l', h2, h3, h4, h5⟩)
  have hlv : ∀ i, (updL h1 os i).live = true → (s.h i).live = true ∧ i ∉ S := by
    intro i h
    rcases hcase i with ⟨h2, h3⟩ | h2 | ⟨t, wd, l, l', h2, h3, h4, _⟩
    · rw [h2] at h; exact ⟨h, h3⟩
    · rw [h2] at h; simp [HO.live] at h
    · exact ⟨by rw [h4]; rfl, h3⟩
  refine ⟨m.frz S s.h w, hD.size, hD.defers.mono hle.ro, hD.le.trans hle, hD.ids, fun i => ?_, ?_⟩
  · show R _ (updL s.t ds i) _
    rcases updL_mem (f := s.t) (l := ds) (i := i) with h | h
    · rw [h]; exact R.mono hle _ _ (hD.tmps i)
    · exact hM.frz_R (hd.get _ h) _ (hD.tmps i)
  · exact {
      os := hM.os
      tape := hM.tape
      output := hM.output
      size := hM.size
      block := hM.block
      ro := hM.frz_ro
      told := fun b o h => by
        simp only [Mem.frz] at h
        split at h
        · rename_i h'
          by_cases hb : b < X.w0.heap.size
          · exact .inr (.inr ((hM.frz_in h').2 hb))
          · exact .inr (.inl (Nat.not_lt.1 hb))
        · exact hM.told b o h
      obj := fun i => by
        show HOok _ w i (updL h1 os i)
        rcases hcase i with ⟨h2, h3⟩ | h2 | ⟨t, wd, l, l', h2, h3, h4, h5⟩
        · rw [h2]; exact HOok.mono hle rfl (fun _ _ _ => rfl) (hM.obj i)
        · rw [h2]; trivial
        · rw [h2]
          have hob := hM.obj i
          rw [h4] at hob
          obtain ⟨ol, h6, h7, h8⟩ := hob
          obtain ⟨h9, h10⟩ := h5.get hM
          refine ⟨ol, h6, fun h => ?_, fun L hL => ?_⟩
          · have := h7 h
            subst this
            exact List.eq_nil_of_length_eq_zero h9.symm
          · obtain ⟨cs, h11, h12, h13, h14⟩ := h8 L hL
            exact ⟨cs, h11, h12, by omega, RRow_mem h9 (fun j hj v hv => h10 j v hj hv) h14⟩
      mine := fun i L hl hL => by
        obtain ⟨h1, h2⟩ := hlv i hl
        refine ⟨?_, (hM.mine i L h1 hL).2⟩
        have : ¬ inS S s.h m L.blk := by
          rintro ⟨j, L', hj, hj1, hj2, hj3⟩
          exact hM.apart j i L' L (fun h => h2 (h ▸ hj)) hj1 h1 hj2 hL hj3
        simp only [Mem.frz, if_neg this]
        exact (hM.mine i L h1 hL).1
      apart := fun i j L L' hij hl hl' hL hL' => hM.apart i j L L' hij (hlv i hl).1 (hlv j hl').1 hL hL' }

end

theorem GoOps.sub {E : Env} {X : Ctx} {nt : Nat} {ops : Array Oper} {l : List Oper} {K : AS → Prop} {s s' : AS} (hs : s.sub s') (h : GoOps E X nt ops l K s') : GoOps E X nt ops l K s :=
  ⟨fun hl Q' a w hQ hD => h.out hl Q' a w hQ (hs.out X nt a w hD)⟩
end Go.Proofs.YtfbjoamdkieamaaGreat.AM
end

section
set_option linter.unusedSimpArgs false
set_option linter.unusedVariables false
namespace Go.Proofs.YtfbjoamdkieamaaGreat.AM
open Go

section
variable {m m' : Mem} {ρ : Nat → Nat} {S : List Nat}
mutual
theorem R_to (hro : ∀ b o, m.ro b = some o → m'.ro b = some o) (hat : ∀ i x, S.contains i = true → m.at_ i = some x → m'.at_ (ρ i) = some x) : ∀ (x : AV) (v : Value), x.idsIn S = true → R m x v → R m' (x.ren ρ) v
  | .junk, _, _, _ => trivial
  | .int _ _, _, _, h => h
  | .bool _, _, _, h => h
  | .raw _, _, _, h => h
  | .list c w l, v, _, h => R_noId hro (.list c w l) v rfl h
  | .ref x o, v, _, h => R_noId hro (.ref x o) v rfl h
  | .agg cs, v, hn, ⟨vs, h1, h2⟩ => ⟨vs, h1, RS_to hro hat cs vs (by simpa only [AV.idsIn] using hn) h2⟩
  | .tuple cs, v, hn, ⟨vs, h1, h2⟩ => ⟨vs, h1, RS_to hro hat cs vs (by simpa only [AV.idsIn] using hn) h2⟩
  | .ptr id w i o, v, hn, ⟨L, h1, h2⟩ => ⟨L, hat id _ (by simpa only [AV.idsIn] using hn) h1, h2⟩
  | .sl c id w off len, v, hn, ⟨ol, h1, h2⟩ => ⟨ol, hat id _ (by simpa only [AV.idsIn] using hn) h1, h2⟩
  | .omap id, v, hn, ⟨L, h1, h2⟩ => ⟨L, hat id _ (by simpa only [AV.idsIn] using hn) h1, h2⟩
  | .yld id, v, hn, ⟨L, h1, h2⟩ => ⟨L, hat id _ (by simpa only [AV.idsIn] using hn) h1, h2⟩
  | .fn f a b, v, hn, ⟨fs, cs, h1, h2, h3⟩ => by
      simp only [AV.idsIn, Bool.and_eq_true] at hn
      exact ⟨fs, cs, h1, RS_to hro hat a fs hn.1 h2, RS_to hro hat b cs hn.2 h3⟩
theorem RS_to (hro : ∀ b o, m.ro b = some o → m'.ro b = some o) (hat : ∀ i x, S.contains i = true → m.at_ i = some x → m'.at_ (ρ i) = some x) : ∀ (xs : List AV) (vs : List Value), AV.idsIns S xs = true → RS m xs vs → RS m' (AV.rens ρ xs) vs
  | [], _, _, h => h
  | x :: r, _, hn, ⟨v, vs', h1, h2, h3⟩ => by
      simp only [AV.idsIns, Bool.and_eq_true] at hn
      exact ⟨v, vs', h1, R_to hro hat x v hn.1 h2, RS_to hro hat r vs' hn.2 h3⟩
end
end

inductive OutE (ρ : Nat → Nat) (S : List Nat) : List AV → List AV → Prop where
  | same (l : List AV) (h : ∀ x ∈ l, x.noId = true) : OutE ρ S l l
  | ren {l : List AV} (hn : AV.idsIns S l = true) : OutE ρ S l (AV.rens ρ l)

theorem OutE.row {m m' : Mem} {ρ : Nat → Nat} {S : List Nat} (hro : ∀ b o, m.ro b = some o → m'.ro b = some o) (hat : ∀ i x, S.contains i = true → m.at_ i = some x → m'.at_ (ρ i) = some x) {l l' : List AV} (h : OutE ρ S l l')
    {arr : Array Value} {w o : Nat} (hr : RRow m arr w o l) : l.length = l'.length ∧ RRow m' arr w o l' := by
  cases h with
  | same h => exact ⟨rfl, RRow_noId hro h hr⟩
  | ren hn =>
    have h3 := fun i => rens_get ρ l i
    refine ⟨(h3 0).1.symm, RRow_mem (h3 0).1.symm (fun i hi v hv => ?_) hr⟩
    rw [(h3 i).2]
    exact R_to hro hat _ v (idsIns_get hn i) hv

/-- An object that comes back under other names. -/
inductive ObO (ρ : Nat → Nat) (S : List Nat) : HO → HO → Prop where
  | arr {t w : Nat} {l l' : List AV} (h : OutE ρ S l l') : ObO ρ S (.arr t w l) (.arr t w l')
  | map {es : List (AV × AV)} (h : entsNoId es) : ObO ρ S (.map es) (.map es)
  | loop {busy : Bool} {nt : Nat} {ps : Array Tmp} {asg body : Code} {tm : List (Nat × AV)} (h : ∀ p ∈ tm, p.2.idsIn S = true) : ObO ρ S (.loop busy nt ps asg body tm) (.loop busy nt ps asg body (tm.map fun p => (p.1, p.2.ren ρ)))
  | dead : ObO ρ S .dead .dead
theorem ObO.live {ρ : Nat → Nat} {S : List Nat} {o o' : HO} (h : ObO ρ S o o') : o'.live = o.live := by cases h <;> rfl
theorem ObO.ok {m m' : Mem} {w : World} {ρ : Nat → Nat} {S : List Nat} {i : Nat} {o o' : HO} (hro : ∀ b o, m.ro b = some o → m'.ro b = some o) (hat : ∀ i x, S.contains i = true → m.at_ i = some x → m'.at_ (ρ i) = some x) (hi : S.contains i = true)
    (h : ObO ρ S o o') (ho : HOok m w i o) : HOok m' w (ρ i) o' := by
  cases h with
  | arr h3 =>
    obtain ⟨ol, h4, h5, h6⟩ := ho
    refine ⟨ol, hat i _ hi h4, fun h => ?_, fun L hL => ?_⟩
    · have := h5 h
      subst this
      exact List.eq_nil_of_length_eq_zero (h3.row (arr := #[]) (w := 0) (o := 0) hro hat trivial).1.symm
    · obtain ⟨cs, h7, h8, h9, h10⟩ := h6 L hL
      obtain ⟨h11, h12⟩ := h3.row hro hat h10
      exact ⟨cs, h7, h8, by omega, h12⟩
  | map hn =>
    obtain ⟨L, h1, ents, h2, h3⟩ := ho
    exact ⟨L, hat i _ hi h1, ents, h2, h3.noId hro hn⟩
  | dead => trivial
  | loop hn =>
    rename_i tm
    obtain ⟨L, r, h1, h2, h3⟩ := ho
    refine ⟨L, r, hat i _ hi h1, h2, h3.1, h3.2.1, h3.2.2.1, h3.2.2.2.1, h3.2.2.2.2.1, h3.2.2.2.2.2.1, fun j => ?_⟩
    have hj := h3.2.2.2.2.2.2 j
    have e : ∀ l : List (Nat × AV), ofL .junk (l.map fun p => (p.1, p.2.ren ρ)) j = (ofL .junk l j).ren ρ := by
      intro l
      induction l with
      | nil => rfl
      | cons p l ih =>
        by_cases h : j = p.1
        · subst h; simp only [List.map_cons, ofL, updL]; rw [upd_same, upd_same]
        · simp only [List.map_cons, ofL, updL]; rw [upd_ne _ _ _ _ h, upd_ne _ _ _ _ h]; exact ih
    rw [e]
    refine R_to hro hat _ _ ?_ hj
    rcases ofL_mem (d := AV.junk) (l := tm) (i := j) with h | h
    · rw [h]; rfl
    · exact hn _ h

/-- What is handed in: the callee's objects are the caller's. -/
def InOK (H : Nat → HO) (ρ : Nat → Nat) (S : List Nat) : List (Nat × HO) → Prop
  | [] => True
  | (i, .arr t w l') :: r => (∃ l, H (ρ i) = .arr t w l ∧ Elems ρ S l l') ∧ InOK H ρ S r
  | (i, .map es) :: r => (H (ρ i) = .map es ∧ entsNoId es) ∧ InOK H ρ S r
  | (i, .loop busy nt ps asg body tm') :: r => (∃ tm, H (ρ i) = .loop busy nt ps asg body tm ∧ TmpsL (ofL .junk tm) ρ S tm') ∧ InOK H ρ S r
  | _ => False

theorem InOK.get {H : Nat → HO} {ρ : Nat → Nat} {S : List Nat} : ∀ {l : List (Nat × HO)}, InOK H ρ S l → ∀ p ∈ l, ObR ρ S (H (ρ p.1)) p.2
  | [], _, p, hp => by simp at hp
  | (i, .arr t w l') :: r, ⟨⟨l, h0, h1⟩, h2⟩, p, hp => by
    rcases List.mem_cons.1 hp with rfl | hp
    · dsimp only; rw [h0]; exact .arr h1
    · exact InOK.get h2 p hp
  | (i, .map es) :: r, ⟨⟨h0, h1⟩, h2⟩, p, hp => by
    rcases List.mem_cons.1 hp with rfl | hp
    · dsimp only; rw [h0]; exact .map h1
    · exact InOK.get h2 p hp
  | (i, .loop busy nt ps asg body tm') :: r, ⟨⟨tm, h0, h1⟩, h2⟩, p, hp => by
    rcases List.mem_cons.1 hp with rfl | hp
    · dsimp only; rw [h0]; exact .loop h1
    · exact InOK.get h2 p hp
  | (i, .dead) :: r, h, p, hp => h.elim
  | (i, .free) :: r, h, p, hp => h.elim
  | (i, .iter ..) :: r, h, p, hp => h.elim

/-- What comes back. -/
def PostOK (H : Nat → HO) (ρ : Nat → Nat) (I S : List Nat) : List (Nat × HO) → List (Nat × HO) → Prop
  | [], [] => True
  | (i, .arr t w l) :: r, (j, o) :: r' => (j = ρ i ∧ (∃ l', o = .arr t w l' ∧ OutE ρ S l l') ∧ (I.contains i = true ∨ H j = .free)) ∧ PostOK H ρ I S r r'
  | (i, .map es) :: r, (j, o) :: r' => (j = ρ i ∧ (o = .map es ∧ entsNoId es) ∧ (I.contains i = true ∨ H j = .free)) ∧ PostOK H ρ I S r r'
  | (i, .loop busy nt ps asg body tm) :: r, (j, o) :: r' => (j = ρ i ∧ (o = .loop busy nt ps asg body (tm.map fun p => (p.1, p.2.ren ρ)) ∧ ∀ p ∈ tm, p.2.idsIn S = true) ∧ (I.contains i = true ∨ H j = .free)) ∧ PostOK H ρ I S r r'
  | (i, .dead) :: r, (j, o) :: r' => (j = ρ i ∧ o = .dead ∧ I.contains i = true) ∧ PostOK H ρ I S r r'
  | _, _ => False

theorem PostOK.get {H : Nat → HO} {ρ : Nat → Nat} {I S : List Nat} {G : Nat → HO} : ∀ (os ps : List (Nat × HO)), PostOK H ρ I S os ps → (∀ i j, i ∈ keys os → j ∈ keys os → ρ i = ρ j → i = j) →
    keys ps = (keys os).map ρ ∧ ∀ i ∈ keys os, (I.contains i = true ∨ H (ρ i) = .free) ∧ ∃ o o', (i, o) ∈ os ∧ updL G ps (ρ i) = o' ∧ ObO ρ S o o' := by
  intro os
  induction os with
  | nil =>
    intro ps h _
    cases ps with
    | nil => exact ⟨rfl, fun i h => by simp [keys] at h⟩
    | cons => exact h.elim
  | cons p r ih =>
    obtain ⟨i, o0⟩ := p
    intro ps h hinj
    cases ps with
    | nil => cases o0 <;> exact h.elim
    | cons q r' =>
      obtain ⟨j, o⟩ := q
      have key : j = ρ i → ObO ρ S o0 o → (I.contains i = true ∨ H j = .free) → PostOK H ρ I S r r' → keys ((j, o) :: r') = (keys ((i, o0) :: r)).map ρ ∧ ∀ k ∈ keys ((i, o0) :: r), (I.contains k = true ∨ H (ρ k) = .free) ∧ ∃ o1 o', (k, o1) ∈ (i, o0) :: r ∧ updL G ((j, o) :: r') (ρ k) = o' ∧ ObO ρ S o1 o' := by
        intro hj h1 h2 h3
        subst hj
        obtain ⟨h4, h5⟩ := ih r' h3 fun a b ha hb h => hinj a b (by simp [keys] at *; exact .inr ha) (by simp [keys] at *; exact .inr hb) h
        refine ⟨by simp only [keys, List.map_cons] at h4 ⊢; rw [h4], fun k hk => ?_⟩
        by_cases hki : ρ k = ρ i
        · have : k = i := hinj k i hk (by simp [keys]) hki
          subst this
          exact ⟨h2, o0, o, by simp, by simp only [updL]; rw [upd_same], h1⟩
        · have hk' : k ∈ keys r := by
            simp only [keys, List.map_cons, List.mem_cons] at hk
            rcases hk with rfl | hk
            · exact absurd rfl hki
            · exact hk
          obtain ⟨h6, o1, o2, h7, h8, h9⟩ := h5 k hk'
          exact ⟨h6, o1, o2, List.mem_cons_of_mem _ h7, by simp only [updL]; rw [upd_ne _ _ _ _ hki]; exact h8, h9⟩
      cases o0 with
      | arr t w l =>
        obtain ⟨⟨hj, ⟨l', ho, h1⟩, h2⟩, h3⟩ := h
        subst ho
        exact key hj (.arr h1) h2 h3
      | map es =>
        obtain ⟨⟨hj, ⟨ho, h1⟩, h2⟩, h3⟩ := h
        subst ho
        exact key hj (.map h1) h2 h3
      | loop busy nt ps asg body tm =>
        obtain ⟨⟨hj, ⟨ho, h1⟩, h2⟩, h3⟩ := h
        subst ho
        exact key hj (.loop h1) h2 h3
      | dead =>
        obtain ⟨⟨hj, ho, h2⟩, h3⟩ := h
        subst ho
        exact key hj .dead (.inl h2) h3
      | _ => exact h.elim

theorem find_ren {ρ : Nat → Nat} {S : List Nat} (hinj : ∀ i j, i ∈ S → j ∈ S → ρ i = ρ j → i = j) {i : Nat} (hi : i ∈ S) : S.find? (fun k => ρ k == ρ i) = some i := by
  cases h : S.find? (fun k => ρ k == ρ i) with
  | none =>
    have := List.find?_eq_none.1 h i hi
    simp at this
  | some k =>
    have h1 := List.find?_some h
    have h2 := List.mem_of_find?_eq_some h
    rw [hinj k i h2 hi (by simpa using h1)]

theorem MemOK.callIn {r0 : Nat → Option Obj} {w0 w : World} {mu : Nat → Prop} {m : Mem} {H : Nat → HO} (hM : MemOK r0 w0 mu m H w) {ρ : Nat → Nat} {ins : List (Nat × HO)} (hin : InOK H ρ (keys ins) ins)
    (hinj : ∀ i j, i ∈ keys ins → j ∈ keys ins → ρ i = ρ j → i = j) :
    MemOK m.ro w (blocksOf ⟨m.ro, fun i => if (keys ins).contains i = true then m.at_ (ρ i) else none⟩ (ofL .free ins)) ⟨m.ro, fun i => if (keys ins).contains i = true then m.at_ (ρ i) else none⟩ (ofL .free ins) w := by
  generalize hS : keys ins = S at *
  have hlive : ∀ i, ofL HO.free ins i ≠ .free → i ∈ S := by
    intro i h
    rcases ofL_mem (d := HO.free) (l := ins) (i := i) with h' | h'
    · exact absurd h' h
    · rw [← hS]; exact List.mem_map.2 ⟨_, h', rfl⟩
  have hget : ∀ i, i ∈ S → ObR ρ S (H (ρ i)) (ofL HO.free ins i) := by
    intro i hi
    rw [← hS] at hi
    exact hin.get _ (ofL_in (d := HO.free) hi)
  have hl' : ∀ i, (ofL HO.free ins i).live = true → i ∈ S := fun i h => hlive i fun h' => by rw [h'] at h; simp [HO.live] at h
  have hHl : ∀ i, i ∈ S → (H (ρ i)).live = true := fun i hi => (hget i hi).live.1
  have hat0 : ∀ i L, i ∈ S → (if S.contains i = true then m.at_ (ρ i) else none) = some (some L) → m.at_ (ρ i) = some (some L) := by
    intro i L hi h
    rwa [if_pos (by simpa using hi)] at h
  refine { os := rfl, tape := rfl, output := rfl, size := Nat.le_refl _, block := fun _ _ _ => rfl, ro := hM.ro, told := fun _ _ h => .inl h, obj := fun i => ?_, mine := fun i L hl hL => ?_, apart := fun i j L L' hij hl hl2 hL hL' => ?_ }
  · by_cases hi : i ∈ S
    · have hc : S.contains i = true := by simpa using hi
      have hro : ∀ b o, m.ro b = some o → (⟨m.ro, fun i => if S.contains i = true then m.at_ (ρ i) else none⟩ : Mem).ro b = some o := fun _ _ h => h
      have hat : ∀ i x, S.contains i = true → m.at_ (ρ i) = some x → (⟨m.ro, fun i => if S.contains i = true then m.at_ (ρ i) else none⟩ : Mem).at_ i = some x := fun i x hi h => by simp only [hi, if_true]; exact h
      exact (hget i hi).ok hro hat hc (hM.obj (ρ i))
    · have : ofL HO.free ins i = .free := by
        cases h : ofL HO.free ins i with
        | free => rfl
        | _ => exact absurd (hlive i (by rw [h]; simp)) hi
      rw [this]
      show (if S.contains i = true then m.at_ (ρ i) else none) = none
      rw [if_neg (by simpa using hi)]
  · have hi := hl' i hl
    exact ⟨(hM.mine (ρ i) L (hHl i hi) (hat0 i L hi hL)).1, fun _ => ⟨i, L, hl, hL, rfl⟩⟩
  · have hi := hl' i hl
    have hj := hl' j hl2
    exact hM.apart (ρ i) (ρ j) L L' (fun h => hij (hinj i j hi hj h)) (hHl i hi) (hHl j hj) (hat0 i L hi hL) (hat0 j L' hj hL')

section
variable {r0 : Nat → Option Obj} {w0 w w' : World} {mu : Nat → Prop} {m mc : Mem} {H Hc G : Nat → HO} {ρ : Nat → Nat} {ins outs post : List (Nat × HO)}

/-- The caller's memory after the call. -/
def Mem.callOut (m mc : Mem) (ρ : Nat → Nat) (S : List Nat) : Mem := ⟨mc.ro, fun j => match S.find? (fun k => ρ k == j) with | some i => mc.at_ i | none => m.at_ j⟩

theorem MemOK.callOut (hM : MemOK r0 w0 mu m H w) (hin : InOK H ρ (keys ins) ins) (hinj : ∀ i j, i ∈ keys outs → j ∈ keys outs → ρ i = ρ j → i = j) (hio : ∀ i, i ∈ keys ins → i ∈ keys outs)
    (hpost : PostOK H ρ (keys ins) (keys outs) outs post) (hle : (⟨m.ro, fun i => if (keys ins).contains i = true then m.at_ (ρ i) else none⟩ : Mem).le mc)
    (hC : MemOK m.ro w (blocksOf ⟨m.ro, fun i => if (keys ins).contains i = true then m.at_ (ρ i) else none⟩ (ofL .free ins)) mc Hc w') (hHc : ∀ p ∈ outs, Hc p.1 = p.2) :
    m.le (m.callOut mc ρ (keys outs)) ∧ (∀ i x, (keys outs).contains i = true → mc.at_ i = some x → (m.callOut mc ρ (keys outs)).at_ (ρ i) = some x) ∧ MemOK r0 w0 mu (m.callOut mc ρ (keys outs)) (updL H post) w' := by
  generalize hmC : (⟨m.ro, fun i => if (keys ins).contains i = true then m.at_ (ρ i) else none⟩ : Mem) = mC at *
  generalize hm' : m.callOut mc ρ (keys outs) = m'
  obtain ⟨hkeys, hget⟩ := PostOK.get (G := H) _ _ hpost hinj
  have hro' : ∀ b, m'.ro b = mc.ro b := fun b => by rw [← hm']; rfl
  have hCro : ∀ b, mC.ro b = m.ro b := fun b => by rw [← hmC]
  have hat1 : ∀ i, i ∈ keys outs → m'.at_ (ρ i) = mc.at_ i := fun i hi => by
    rw [← hm']; simp only [Mem.callOut, find_ren hinj hi]
  have hat2 : ∀ j, (∀ i, i ∈ keys outs → ρ i ≠ j) → m'.at_ j = m.at_ j := fun j h => by
    rw [← hm']; simp only [Mem.callOut]
    have : (keys outs).find? (fun k => ρ k == j) = none := List.find?_eq_none.2 fun i hi => by simpa using h i hi
    rw [this]
  have hupd2 : ∀ j, (∀ i, i ∈ keys outs → ρ i ≠ j) → updL H post j = H j := fun j h => updL_not (by
    rw [hkeys]; intro hj
    obtain ⟨i, hi, he⟩ := List.mem_map.1 hj
    exact h i hi he)
  have hinget : ∀ i, i ∈ keys ins → (H (ρ i)).live = true ∧ mC.at_ i = m.at_ (ρ i) := fun i hi => by
    exact ⟨(hin.get _ (ofL_in (d := HO.free) hi)).live.1, by rw [← hmC]; exact if_pos (by simpa using hi)⟩
  have hblocks : ∀ b, blocksOf mC (ofL .free ins) b → ∃ i L, i ∈ keys ins ∧ m.at_ (ρ i) = some (some L) ∧ mC.at_ i = some (some L) ∧ b = L.blk := by
    rintro b ⟨i, L, hl, hL, rfl⟩
    have hi : i ∈ keys ins := by
      rcases ofL_mem (d := HO.free) (l := ins) (i := i) with h' | h'
      · rw [h'] at hl; simp [HO.live] at hl
      · exact List.mem_map.2 ⟨_, h', rfl⟩
    exact ⟨i, L, hi, by rw [← (hinget i hi).2]; exact hL, hL, rfl⟩
  have hbmu : ∀ b, blocksOf mC (ofL .free ins) b → b < w0.heap.size → mu b := by
    intro b hb
    obtain ⟨i, L, hi, hL, _, rfl⟩ := hblocks b hb
    exact (hM.mine (ρ i) L (hinget i hi).1 hL).2
  have hother : ∀ j L, (∀ i, i ∈ keys outs → ρ i ≠ j) → (H j).live = true → m.at_ j = some (some L) → ¬ blocksOf mC (ofL .free ins) L.blk := by
    intro j L hj hl hL hb
    obtain ⟨i, L', hi, hL', _, he⟩ := hblocks _ hb
    exact hM.apart j (ρ i) L L' (fun h => hj i (hio i hi) h.symm) hl (hinget i hi).1 hL hL' he
  have hHcl : ∀ i, i ∈ keys outs → ObO ρ (keys outs) (Hc i) (updL H post (ρ i)) := by
    intro i hi
    obtain ⟨_, o, o', h1, h2, h3⟩ := hget i hi
    rw [hHc _ h1, h2]
    exact h3
  have hcl : ∀ i, i ∈ keys outs → (updL H post (ρ i)).live = true → (Hc i).live = true := fun i hi h => by rw [← (hHcl i hi).live]; exact h
  have hmle : m.le m' := by
    refine ⟨fun b o h => by rw [hro']; exact hle.ro b o (by rw [hCro]; exact h), fun j x hx => ?_⟩
    by_cases hj : ∃ i, i ∈ keys outs ∧ ρ i = j
    · obtain ⟨i, hi, rfl⟩ := hj
      rw [hat1 i hi]
      rcases (hget i hi).1 with h | h
      · have hi' : i ∈ keys ins := by simpa using h
        exact hle.at_ _ _ (by rw [(hinget i hi').2]; exact hx)
      · have := hM.obj (ρ i)
        rw [h] at this
        rw [show m.at_ (ρ i) = none from this] at hx; cases hx
    · rw [hat2 j (fun i hi h => hj ⟨i, hi, h⟩)]; exact hx
  have hatc : ∀ i x, (keys outs).contains i = true → mc.at_ i = some x → m'.at_ (ρ i) = some x := fun i x hi h => by rw [hat1 i (by simpa using hi)]; exact h
  have hrom : ∀ b o, mc.ro b = some o → m'.ro b = some o := fun b o h => by rw [hro']; exact h
  refine ⟨hmle, hatc, ?_⟩
  have hcase : ∀ j, (∃ i, i ∈ keys outs ∧ ρ i = j) ∨ (∀ i, i ∈ keys outs → ρ i ≠ j) := fun j => by
    by_cases hj : ∃ i, i ∈ keys outs ∧ ρ i = j
    · exact .inl hj
    · exact .inr fun i hi h => hj ⟨i, hi, h⟩
  exact {
    os := hC.os.trans hM.os
    tape := hC.tape.trans hM.tape
    output := hC.output.trans hM.output
    size := Nat.le_trans hM.size hC.size
    block := fun i hi hmu => by
      rw [hC.block i (Nat.lt_of_lt_of_le hi hM.size) (fun h => hmu (hbmu i h hi))]
      exact hM.block i hi hmu
    ro := fun b o h => by rw [hro'] at h; exact hC.ro b o h
    told := fun b o h => by
      rw [hro'] at h
      rcases hC.told b o h with h' | h' | h'
      · exact hM.told b o h'
      · exact .inr (.inl (Nat.le_trans hM.size h'))
      · by_cases hb : b < w0.heap.size
        · exact .inr (.inr (hbmu b h' hb))
        · exact .inr (.inl (Nat.not_lt.1 hb))
    obj := fun j => by
      rcases hcase j with ⟨i, hi, rfl⟩ | hj
      · exact (hHcl i hi).ok hrom hatc (by simpa using hi) (hC.obj i)
      · rw [hupd2 j hj]
        exact HOok.mono hmle (hat2 j hj) (fun hl L hL => hC.block _ (hM.live_blk hl hL) (hother j L hj hl hL)) (hM.obj j)
    mine := fun j L hl hL => by
      rw [hro']
      rcases hcase j with ⟨i, hi, rfl⟩ | hj
      · rw [hat1 i hi] at hL
        obtain ⟨h1, h2⟩ := hC.mine i L (hcl i hi hl) hL
        exact ⟨h1, fun h => hbmu _ (h2 (Nat.lt_of_lt_of_le h hM.size)) h⟩
      · rw [hupd2 j hj] at hl
        rw [hat2 j hj] at hL
        refine ⟨?_, (hM.mine j L hl hL).2⟩
        cases hr : mc.ro L.blk with
        | none => rfl
        | some o =>
          rcases hC.told _ _ hr with h | h | h
          · rw [(hM.mine j L hl hL).1] at h; cases h
          · exact absurd (hM.live_blk hl hL) (Nat.not_lt.2 h)
          · exact absurd h (hother j L hj hl hL)
    apart := fun j j' L L' hjj hl hl' hL hL' => by
      have key : ∀ i j L L', i ∈ keys outs → (Hc i).live = true → (∀ i, i ∈ keys outs → ρ i ≠ j) → (H j).live = true → mc.at_ i = some (some L) → m.at_ j = some (some L') → L.blk ≠ L'.blk := by
        intro i j L L' hi hli hj hl hL hL' he
        by_cases h : L.blk < w.heap.size
        · have := (hC.mine i L hli hL).2 h
          rw [he] at this
          exact hother j L' hj hl hL' this
        · rw [he] at h; exact h (hM.live_blk hl hL')
      rcases hcase j with ⟨i, hi, rfl⟩ | hj <;> rcases hcase j' with ⟨i', hi', rfl⟩ | hj'
      · rw [hat1 i hi] at hL
        rw [hat1 i' hi'] at hL'
        exact hC.apart i i' L L' (fun h => hjj (by rw [h])) (hcl i hi hl) (hcl i' hi' hl') hL hL'
      · rw [hat1 i hi] at hL
        rw [hat2 j' hj'] at hL'
        rw [hupd2 j' hj'] at hl'
        exact key i j' L L' hi (hcl i hi hl) hj' hl' hL hL'
      · rw [hat1 i' hi'] at hL'
        rw [hat2 j hj] at hL
        rw [hupd2 j hj] at hl
        exact fun h => key i' j L' L hi' (hcl i' hi' hl') hj hl hL' hL h.symm
      · rw [hat2 j hj] at hL
        rw [hat2 j' hj'] at hL'
        rw [hupd2 j hj] at hl
        rw [hupd2 j' hj'] at hl'
        exact hM.apart j j' L L' hjj hl hl' hL hL' }
end

section
variable {E : Env} {T : Nat → AV} {H : Nat → HO} {d : Option Tmp} {ty : TypeId} {pos : String} {af : Array Edge} {g : Option (Nat × Bool)}

/-- What one call of a function value runs. -/
theorem run_call {f : FuncId} {fn : Func} {F : Operand} {aL : List Operand} {ats : Array TypeId} {a : Act} {fs cs : List Value} {w : World} (h1 : a.eval F = .func (.func f) fs.toArray cs.toArray) (hfn : E.P.funcs[f]? = some fn) (hbody : fn.body.isSome = true) (hname : (fn.name == "runtime.NumGoroutine") = false) :
    (execOp a.eval ⟨d, .call { callee := .value F, args := aL.toArray, argTypes := ats }, ty, pos, af, g⟩).run E.P w = .ok (.enter f (fs ++ aL.map a.eval ++ cs).toArray) w := by
  obtain ⟨c0, hb0⟩ := Option.isSome_iff_exists.1 hbody
  have hname' : ¬ fn.name = "runtime.NumGoroutine" := by simpa using hname
  simp [execOp, resolve, h1, Deferred.ofValue, invoke, callFunc, program, Sem.run, hfn, hname', hb0]

/-- A call that is handed objects and hands objects back. -/
theorem OpL.callO {F : Operand} {As : Array Operand} {ats : Array TypeId} {f : FuncId} {first cap : List AV} {aL : List Operand} {args : List AV} {ins outs post : List (Nat × HO)} {v v' : AV} (ρ : Nat → Nat) (hAs : As = aL.toArray) (hF : ev T F = .fn (.func f) first cap)
    (hS : Spec E f args (ofL .free ins) (fun r H' => r = v ∧ ∀ p ∈ outs, H' p.1 = p.2)) (hargs : first ++ aL.map (ev T) ++ cap = AV.rens ρ args) (hai : AV.idsIns (keys ins) args = true) (hin : InOK H ρ (keys ins) ins)
    (hinj : inj ρ (keys outs) = true) (hio : (keys ins).all (fun i => (keys outs).contains i) = true) (hpost : PostOK H ρ (keys ins) (keys outs) outs post) (hvi : v.idsIn (keys outs) = true) (hv : v.ren ρ = v') :
    OpL E ⟨d, .call { callee := .value F, args := As, argTypes := ats }, ty, pos, af, g⟩ T H (keys post) post v' := by
  subst hAs hv
  have hinj' : ∀ i j, i ∈ keys outs → j ∈ keys outs → ρ i = ρ j → i = j := fun i j hi hj h => inj_iff hinj hi hj h
  have hio' : ∀ i, i ∈ keys ins → i ∈ keys outs := fun i hi => by simpa using List.all_eq_true.1 hio i hi
  obtain ⟨hkeys, hget⟩ := PostOK.get (G := H) _ _ hpost hinj'
  refine ⟨fun r n m a w r0 w0 mu H' next Q hT hM hr hK => ?_⟩
  have hsame : ∀ i, i ∈ keys outs → H' (ρ i) = H (ρ i) := fun i hi => hr _ (by rw [hkeys]; exact List.mem_map.2 ⟨i, hi, rfl⟩)
  have hinH : ∀ (l : List (Nat × HO)), (∀ p ∈ l, p.1 ∈ keys ins) → InOK H ρ (keys ins) l → InOK H' ρ (keys ins) l := by
    intro l
    induction l with
    | nil => exact fun _ _ => trivial
    | cons p l ih =>
      obtain ⟨i, o⟩ := p
      intro hk h
      cases o with
      | arr t wd l1 =>
        refine ⟨?_, ih (fun p hp => hk p (by simp [hp])) h.2⟩
        rw [hsame i (hio' i (hk (i, HO.arr t wd l1) (by simp)))]; exact h.1
      | map es =>
        refine ⟨?_, ih (fun p hp => hk p (by simp [hp])) h.2⟩
        rw [hsame i (hio' i (hk (i, HO.map es) (by simp)))]; exact h.1
      | loop busy nt ps asg body tm =>
        refine ⟨?_, ih (fun p hp => hk p (by simp [hp])) h.2⟩
        rw [hsame i (hio' i (hk (i, HO.loop busy nt ps asg body tm) (by simp)))]; exact h.1
      | _ => exact h.elim
  have hin' := hinH ins (fun p hp => List.mem_map.2 ⟨p, hp, rfl⟩) hin
  have hpostH : ∀ (l l' : List (Nat × HO)), (∀ p ∈ l, p.1 ∈ keys outs) → PostOK H ρ (keys ins) (keys outs) l l' → PostOK H' ρ (keys ins) (keys outs) l l' := by
    intro l
    induction l with
    | nil => intro l' _ h; cases l' <;> exact h
    | cons p l ih =>
      obtain ⟨i, o⟩ := p
      intro l' hk h
      cases l' with
      | nil => cases o <;> exact h.elim
      | cons q l' =>
        obtain ⟨j, o'⟩ := q
        cases o with
        | arr t wd l1 =>
          obtain ⟨⟨h1, h2, h3⟩, h4⟩ := h
          refine ⟨⟨h1, h2, ?_⟩, ih l' (fun p hp => hk p (by simp [hp])) h4⟩
          rw [h1] at h3 ⊢
          rw [hsame i (hk (i, HO.arr t wd l1) (by simp))]; exact h3
        | map es =>
          obtain ⟨⟨h1, h2, h3⟩, h4⟩ := h
          refine ⟨⟨h1, h2, ?_⟩, ih l' (fun p hp => hk p (by simp [hp])) h4⟩
          rw [h1] at h3 ⊢
          rw [hsame i (hk (i, HO.map es) (by simp))]; exact h3
        | loop busy nt ps asg body tm =>
          obtain ⟨⟨h1, h2, h3⟩, h4⟩ := h
          refine ⟨⟨h1, h2, ?_⟩, ih l' (fun p hp => hk p (by simp [hp])) h4⟩
          rw [h1] at h3 ⊢
          rw [hsame i (hk (i, HO.loop busy nt ps asg body tm) (by simp))]; exact h3
        | dead => exact ⟨h.1, ih l' (fun p hp => hk p (by simp [hp])) h.2⟩
        | _ => exact h.elim
  have hpost' := hpostH outs post (fun p hp => List.mem_map.2 ⟨p, hp, rfl⟩) hpost
  have h1 := hT F (by simp [Op.operands, Call.operands])
  rw [hF] at h1
  obtain ⟨fs, cs, h1, h2, h3⟩ := h1
  have h4 : RS m (aL.map (ev T)) (aL.map a.eval) := RS_map_ev aL fun X hX => hT X (by simp [Op.operands, Call.operands, hX])
  have h5 : RS m (first ++ aL.map (ev T) ++ cap) (fs ++ aL.map a.eval ++ cs) := RS_append (RS_append h2 h4) h3
  rw [hargs] at h5
  have hMC := hM.callIn hin' (fun i j hi hj h => hinj' i j (hio' i hi) (hio' j hj) h)
  have h50 := RS_ren (m := m) (m' := ⟨m.ro, fun i => if (keys ins).contains i = true then m.at_ (ρ i) else none⟩) (ρ := ρ) (S := keys ins) (fun _ _ h => h) (fun i x hi h => by simp only [hi, if_true]; exact h) _ _ hai h5
  have h6 := hS.run (n - 1) _ w _ hMC h50
  obtain ⟨fn, hfn, hbody, hname⟩ := hS.code
  refine ⟨fun _ _ => trivial, ?_⟩
  rw [Oper.semAt_eq _ _ _ (by simp), run_call h1 hfn hbody hname]
  refine ⟨fun h => by simp [Wf] at h, ?_⟩
  have h7 : ∀ R, CallsIn Fence.wide (n - 1) E.P f (fs ++ aL.map a.eval ++ cs).toArray w R → CallsIn (Wf r) (n - 1) E.P f (fs ++ aL.map a.eval ++ cs).toArray w R := by
    cases r with
    | none => exact fun _ h => h
    | some l => exact fun _ h => CallsIn.inRound l h
  refine (h7 _ h6).mono fun e w' ⟨u, rr, Hc, mc, he, ⟨hq1, hq2⟩, hle, hC, hR⟩ => ?_
  subst he hq1
  obtain ⟨h8, h9, h10⟩ := hM.callOut hin' hinj' hio' hpost' hle hC hq2
  exact hK _ u w' h8 h10 (R_to (m := mc) (m' := m.callOut mc ρ (keys outs)) (fun _ _ h => h) h9 _ _ hvi hR)

theorem noIds_mem : ∀ {l : List AV}, AV.noIds l = true → ∀ x ∈ l, x.noId = true
  | [], _, x, hx => by simp at hx
  | y :: r, h, x, hx => by
    simp only [AV.noIds, Bool.and_eq_true] at h
    rcases List.mem_cons.1 hx with rfl | hx
    · exact h.1
    · exact noIds_mem h.2 x hx
theorem noId_map {α : Type} {f : α → AV} (h : ∀ a, (f a).noId = true) (xs : List α) : ∀ x ∈ xs.map f, x.noId = true := fun x hx => by
  obtain ⟨a, _, rfl⟩ := List.mem_map.1 hx
  exact h a
theorem Elems.all {ρ : Nat → Nat} {S : List Nat} {l : List AV} (h : AV.noIds l = true) : Elems ρ S l l := .same l (noIds_mem h)
theorem Elems.mapped {α : Type} {f : α → AV} {ρ : Nat → Nat} {S : List Nat} {xs ys : List α} (h : ∀ a, (f a).noId = true) (he : xs = ys) : Elems ρ S (xs.map f) (ys.map f) := he ▸ .same _ (noId_map h xs)
theorem OutE.all {ρ : Nat → Nat} {S : List Nat} {l : List AV} (h : AV.noIds l = true) : OutE ρ S l l := .same l (noIds_mem h)
theorem OutE.mapped {α : Type} {f : α → AV} {ρ : Nat → Nat} {S : List Nat} {xs : List α} (h : ∀ a, (f a).noId = true) : OutE ρ S (xs.map f) (xs.map f) := .same _ (noId_map h xs)

/-! ### Calls that see objects as what is read alone -/
mutual
def AV.flat : AV → Bool
  | .junk | .int .. | .bool _ | .raw _ => true
  | .agg cs => AV.flats cs
  | .tuple cs => AV.flats cs
  | _ => false
def AV.flats : List AV → Bool
  | [] => true
  | x :: r => x.flat && AV.flats r
end
mutual
theorem R_flat {m m' : Mem} : ∀ (x : AV) (v : Value), x.flat = true → R m x v → R m' x v
  | .junk, _, _, _ => trivial
  | .int _ _, _, _, h => h
  | .bool _, _, _, h => h
  | .raw _, _, _, h => h
  | .agg cs, v, hn, ⟨vs, h1, h2⟩ => ⟨vs, h1, RS_flat cs vs (by simpa only [AV.flat] using hn) h2⟩
  | .tuple cs, v, hn, ⟨vs, h1, h2⟩ => ⟨vs, h1, RS_flat cs vs (by simpa only [AV.flat] using hn) h2⟩
  | .list .., _, hn, _ => by simp [AV.flat] at hn
  | .ref .., _, hn, _ => by simp [AV.flat] at hn
  | .ptr .., _, hn, _ => by simp [AV.flat] at hn
  | .sl .., _, hn, _ => by simp [AV.flat] at hn
  | .omap _, _, hn, _ => by simp [AV.flat] at hn
  | .yld _, _, hn, _ => by simp [AV.flat] at hn
  | .fn .., _, hn, _ => by simp [AV.flat] at hn
theorem RS_flat {m m' : Mem} : ∀ (xs : List AV) (vs : List Value), AV.flats xs = true → RS m xs vs → RS m' xs vs
  | [], _, _, h => h
  | x :: r, _, hn, ⟨v, vs', h1, h2, h3⟩ => by
      simp only [AV.flats, Bool.and_eq_true] at hn
      exact ⟨v, vs', h1, R_flat x v hn.1 h2, RS_flat r vs' hn.2 h3⟩
end

inductive Fzs (H : Nat → HO) (S : List Nat) : List AV → List AV → Prop where
  | nil : Fzs H S [] []
  | cons {x y : AV} {xs ys : List AV} (h : Fz H S x y) (h' : Fzs H S xs ys) : Fzs H S (x :: xs) (y :: ys)

theorem Fz.congr {H H' : Nat → HO} {S : List Nat} (hh : ∀ i ∈ S, H' i = H i) : ∀ {x y : AV}, Fz H S x y → Fz H' S x y := by
  intro x y h
  induction h with
  | same x => exact .same x
  | sl hS hH hn h => exact .sl hS (by rw [hh _ hS]; exact hH) hn h
  | all hS hH hn h => exact .all hS (by rw [hh _ hS]; exact hH) hn h
  | ptr hS hH hn h => exact .ptr hS (by rw [hh _ hS]; exact hH) hn h
  | agg1 _ _ ih ih' => exact .agg1 ih ih'
  | fn1 _ ih => exact .fn1 ih

theorem Fzs.R {r0 : Nat → Option Obj} {w0 w : World} {mu : Nat → Prop} {m : Mem} {S : List Nat} (hM : MemOK r0 w0 mu m H w) : ∀ {xs ys : List AV}, Fzs H S xs ys → ∀ vs, RS m xs vs → RS (m.frz S H w) ys vs := by
  intro xs ys h
  induction h with
  | nil => exact fun vs h => h
  | cons h _ ih =>
    rintro vs ⟨v, vs', rfl, h1, h2⟩
    exact ⟨v, vs', rfl, hM.frz_R h v h1, ih vs' h2⟩

theorem Fzs.congr {H H' : Nat → HO} {S : List Nat} (hh : ∀ i ∈ S, H' i = H i) : ∀ {x y : List AV}, Fzs H S x y → Fzs H' S x y := by
  intro x y h
  induction h with
  | nil => exact .nil
  | cons h _ ih => exact .cons (h.congr hh) ih

/-- A call of a function of plain data that sees objects: they stay as they are; the result is flat. -/
theorem OpL.callV {F : Operand} {As : Array Operand} {ats : Array TypeId} {f : FuncId} {first cap : List AV} {aL : List Operand} {args : List AV} {v : AV} (S : List Nat) (hAs : As = aL.toArray) (hF : ev T F = .fn (.func f) first cap)
    (hS : PSpec E f args v) (hz : Fzs H S (first ++ aL.map (ev T) ++ cap) args) (hn : AV.noIds args = true) (hv : v.flat = true) :
    OpL E ⟨d, .call { callee := .value F, args := As, argTypes := ats }, ty, pos, af, g⟩ T H S [] v := by
  subst hAs
  refine ⟨fun r n m a w r0 w0 mu H' next Q hT hM hr hK => ?_⟩
  have h1 := hT F (by simp [Op.operands, Call.operands])
  rw [hF] at h1
  obtain ⟨fs, cs, h1, h2, h3⟩ := h1
  have h4 : RS m (aL.map (ev T)) (aL.map a.eval) := RS_map_ev aL fun X hX => hT X (by simp [Op.operands, Call.operands, hX])
  have h5 : RS m (first ++ aL.map (ev T) ++ cap) (fs ++ aL.map a.eval ++ cs) := RS_append (RS_append h2 h4) h3
  have h50 := (hz.congr hr).R hM _ h5
  have h51 : RS (m.frz S H' w).noat args (fs ++ aL.map a.eval ++ cs) := RS_noId (m := m.frz S H' w) (m' := (m.frz S H' w).noat) (fun _ _ h => h) _ _ hn h50
  have hMC : MemOK (m.frz S H' w).noat.ro w (blocksOf (m.frz S H' w).noat fun _ => .free) (m.frz S H' w).noat (fun _ => .free) w := {
    os := rfl, tape := rfl, output := rfl, size := Nat.le_refl _, block := fun _ _ _ => rfl, ro := hM.frz_ro, told := fun _ _ h => .inl h, obj := fun _ => rfl, mine := fun _ _ h => by simp [HO.live] at h, apart := fun _ _ _ _ _ h => by simp [HO.live] at h }
  have h6 := hS.run (n - 1) (m.frz S H' w).noat w _ hMC h51
  obtain ⟨fn, hfn, hbody, hname⟩ := hS.code
  refine ⟨fun _ _ => trivial, ?_⟩
  rw [Oper.semAt_eq _ _ _ (by simp), run_call h1 hfn hbody hname]
  refine ⟨fun h => by simp [Wf] at h, ?_⟩
  have h7 : ∀ R, CallsIn Fence.wide (n - 1) E.P f (fs ++ aL.map a.eval ++ cs).toArray w R → CallsIn (Wf r) (n - 1) E.P f (fs ++ aL.map a.eval ++ cs).toArray w R := by
    cases r with
    | none => exact fun _ h => h
    | some l => exact fun _ h => CallsIn.inRound l h
  refine (h7 _ h6).mono fun e w' ⟨u, rr, Hc, mc, he, hq, hle, hC, hR⟩ => ?_
  subst he hq
  have hno : ∀ b, ¬ blocksOf (m.frz S H' w).noat (fun _ => HO.free) b := by
    rintro b ⟨id, L, h, _⟩
    simp [HO.live] at h
  refine hK m u w' (Mem.le.refl m) (hM.world hC.os hC.tape hC.output hC.size fun b hb => hC.block b hb (hno b)) (R_flat _ _ hv hR)
end
end Go.Proofs.YtfbjoamdkieamaaGreat.AM
end

section
set_option linter.unusedSimpArgs false
set_option linter.unusedVariables false
namespace Go.Proofs.YtfbjoamdkieamaaGreat.AM
open Go

/-- Cells written over cells. -/
theorem fold_cells (vs : List Value) : ∀ (k off : Nat) (cs : Array Value), off + k + vs.length ≤ cs.size →
    ((vs.zipIdx k).foldl (fun cs (c, j) => cs.setIfInBounds (off + j) c) cs).size = cs.size ∧
    ∀ j, ((vs.zipIdx k).foldl (fun cs (c, j) => cs.setIfInBounds (off + j) c) cs)[j]? = if off + k ≤ j ∧ j < off + k + vs.length then vs[j - (off + k)]? else cs[j]? := by
  induction vs with
  | nil => intro k off cs _; exact ⟨rfl, fun j => by rw [if_neg (by simp only [List.length_nil]; omega)]; rfl⟩
  | cons v vs ih =>
    intro k off cs h
    simp only [List.length_cons] at h
    obtain ⟨h1, h2⟩ := ih (k + 1) off (cs.setIfInBounds (off + k) v) (by simp; omega)
    simp only [List.zipIdx_cons, List.foldl_cons]
    refine ⟨by rw [h1]; simp, fun j => ?_⟩
    rw [h2 j]
    by_cases hj : j = off + k
    · subst hj
      rw [if_neg (by omega), if_pos (by simp)]
      simp [Array.getElem?_setIfInBounds, show off + k < cs.size by omega]
    · by_cases hj2 : off + (k + 1) ≤ j ∧ j < off + (k + 1) + vs.length
      · rw [if_pos hj2, if_pos (by simp; omega)]
        have : j - (off + k) = (j - (off + (k + 1))) + 1 := by omega
        rw [this, List.getElem?_cons_succ]
      · rw [if_neg hj2, if_neg (by simp; omega)]
        rw [Array.getElem?_setIfInBounds_ne (by omega)]

theorem zip_fold (off : Nat) (v : Value) (cs : Array Value) : v.cells.zipIdx.foldl (fun cs (c, j) => cs.setIfInBounds (off + j) c) cs = (v.cells.toList.zipIdx 0).foldl (fun cs (c, j) => cs.setIfInBounds (off + j) c) cs := by
  rw [← Array.foldl_toList, Array.toList_zipIdx]

def putA (cs : List AV) (off : Nat) (ys : List AV) : List AV := cs.take off ++ ys ++ cs.drop (off + ys.length)

/-- The cells of a struct that is built. -/
def fillA (T : Nat → AV) (place : Nat → Option (Nat × Nat)) : List AV → List (Nat × Operand) → Option (List AV)
  | cs, [] => some cs
  | cs, (i, X) :: r => match place i with
    | none => none
    | some (off, size) => bif (ev T X).plain && Nat.beq (ev T X).cells.length size && Nat.ble (off + size) cs.length then fillA T place (putA cs off (ev T X).cells) r else none

theorem fillA_ok {m : Mem} {T : Nat → AV} {a : Act} {place place' : Nat → Option (Nat × Nat)} (hp : ∀ i p, place i = some p → place' i = some p) : ∀ {parts : List (Nat × Operand)} {l l' : List AV} {cells : Array Value}, (∀ p ∈ parts, R m (ev T p.2) (a.eval p.2)) → RS m l cells.toList →
    fillA T place l parts = some l' → ∃ cells', Instr.fill place' cells (parts.map fun p => (p.1, a.eval p.2)) = some cells' ∧ RS m l' cells'.toList
  | [], l, l', cells, _, h, h' => by
    simp only [fillA, Option.some.injEq] at h'
    subst h'
    exact ⟨cells, rfl, h⟩
  | (i, X) :: r, l, l', cells, hT, h, h' => by
    simp only [fillA] at h'
    split at h'
    · simp at h'
    · rename_i off size hpl
      cases hc : ((ev T X).plain && Nat.beq (ev T X).cells.length size && Nat.ble (off + size) l.length) with
      | false => rw [hc] at h'; simp at h'
      | true =>
        rw [hc, cond_true] at h'
        simp only [Bool.and_eq_true] at hc
        obtain ⟨⟨h1, h2⟩, h3⟩ := hc
        have h2 := Nat.eq_of_beq_eq_true h2
        have h3 := Nat.le_of_ble_eq_true h3
        have hv := R_cells h1 (hT (i, X) (by simp))
        have hsz : (a.eval X).cells.size = size := by rw [← Array.length_toList, RS_len hv, h2]
        have hcl : cells.size = l.length := by rw [← Array.length_toList, RS_len h]
        obtain ⟨h4, h5⟩ := fold_cells (a.eval X).cells.toList 0 off cells (by simp; omega)
        have hrs : RS m (putA l off (ev T X).cells) ((a.eval X).cells.zipIdx.foldl (fun cs (c, j) => cs.setIfInBounds (off + j) c) cells).toList := by
          have he : ((a.eval X).cells.zipIdx.foldl (fun cs (c, j) => cs.setIfInBounds (off + j) c) cells).toList = cells.toList.take off ++ (a.eval X).cells.toList ++ cells.toList.drop (off + (a.eval X).cells.toList.length) := by
            apply List.ext_getElem?
            intro j
            rw [zip_fold, getElem?_splice _ _ _ _ (by simp; omega), Array.getElem?_toList, h5 j]
            simp only [Nat.add_zero, Array.getElem?_toList]
          rw [he]
          unfold putA
          rw [RS_len hv]
          exact RS_append (RS_append (RS_take h off) hv) (RS_drop h _)
        obtain ⟨cells', h6, h7⟩ := fillA_ok hp (fun p hp' => hT p (by simp [hp'])) hrs h'
        refine ⟨cells', ?_, h7⟩
        simp only [List.map_cons, Instr.fill, hp _ _ hpl]
        rw [if_neg (by simp; omega)]
        exact h6

/-- The list, each of its heads seen. -/
def heads (l : List AV) (k : List AV → Option SR) : Option SR :=
  match l with
  | [] => k []
  | x :: r => match hn x with
    | some q => heads r fun r' => k (q.v :: r')
    | none => none
theorem heads_eq : ∀ (l : List AV) (k : List AV → Option SR), heads l k = k l
  | [], k => rfl
  | x :: r, k => by
    rw [heads]
    have : hn x = some ⟨[], [], x⟩ := by cases x <;> rfl
    rw [this]
    exact heads_eq r _

def buildF (td : Nat → TD) (T : Nat → AV) (t : TypeId) (parts : Array (Nat × Operand)) : Option SR :=
  match td t with
  | ⟨.struct fs, _, _, .agg zs⟩ => bif (fs.all fun f => (td f.2).kind.known) then
      (match fillA T (fun i => match fs[i]? with | some (off, ft) => some (off, (td ft).size) | none => none) zs parts.toList with
      | some l => heads l fun l => some ⟨[], [], .agg l⟩
      | none => none) else none
  | _ => none

section
variable {E : Env} {T : Nat → AV} {H : Nat → HO} {d : Option Tmp} {ty : TypeId} {pos : String} {af : Array Edge} {g : Option (Nat × Bool)}

theorem run_places {w : World} : ∀ (fields : List Field), (∀ f ∈ fields, (E.td f.type).kind ≠ .other) →
    (fields.mapM fun f => (do pure (f.offset, ← sizeOf f.type) : Sem (Nat × Nat))).run E.P w = .ok (fields.map fun f => (f.offset, (E.td f.type).size)) w
  | [], _ => rfl
  | f :: r, h => by
    rw [List.mapM_cons]
    simp only [Sem.run_bind, Env.run_sizeOf (h f (by simp)), Result.andThen_ok, Sem.run_pure, run_places r fun g hg => h g (by simp [hg]), List.map_cons]

theorem OpL.build {t : TypeId} {parts : Array (Nat × Operand)} {rd : List Nat} {post : List (Nat × HO)} {v : AV} (h : buildF E.td T t parts = some ⟨rd, post, v⟩) : OpL E ⟨d, .build t parts, ty, pos, af, g⟩ T H rd post v := by
  unfold buildF at h
  split at h
  · rename_i fs sz by_ zs htd
    cases hc : (fs.all fun f => (E.td f.2).kind.known) with
    | false => rw [hc] at h; simp at h
    | true =>
      rw [hc, cond_true] at h
      split at h
      · rename_i l hl
        rw [heads_eq] at h
        simp only [Option.some.injEq, SR.mk.injEq] at h
        obtain ⟨rfl, rfl, rfl⟩ := h
        refine OpL.pure (by simp) fun m a w hT => ?_
        have hk : (E.td t).kind = .struct fs := by rw [htd]
        have hk' : (E.td t).kind ≠ .other := by rw [hk]; simp
        obtain ⟨_, inf, z, _, hi, _, hs, _, hz, hz0, hzs⟩ := Env.facts hk'
        rw [htd] at hz0
        dsimp only at hz0
        obtain ⟨zv, rfl, hzr⟩ := R_zero m _ _ hz0
        obtain ⟨fields, hu, hfs⟩ := Env.und_struct hk
        have hfk : ∀ f ∈ fields.toList, (E.td f.type).kind ≠ .other := by
          intro f hf
          have : (f.offset, f.type) ∈ fs := by rw [← hfs]; exact List.mem_map.2 ⟨f, hf, rfl⟩
          exact TK.known_ne (List.all_eq_true.1 hc _ this)
        obtain ⟨cells', h6, h7⟩ := fillA_ok (m := m) (a := a) (place' := fun i => (fields.toList.map fun f => (f.offset, (E.td f.type).size)).toArray[i]?) (cells := zv.toArray) (fun i p hp => by
          split at hp
          · rename_i off ft hf
            rw [← hfs] at hf
            simp only [List.getElem?_map, Option.map_eq_some_iff] at hf
            obtain ⟨f, hf1, hf2⟩ := hf
            injection hf2 with e1 e2
            subst e1 e2
            simp only [Option.some.injEq] at hp
            subst hp
            simp only [List.getElem?_toArray, List.getElem?_map, hf1, Option.map_some]
          · simp at hp) (fun p hp => hT p.2 (by simp [Op.operands]; exact ⟨p.1, by simpa using hp⟩)) (by simpa using hzr) hl
        refine ⟨.agg cells', ?_, cells'.toList, by simp, h7⟩
        have hpl := run_places (E := E) (w := w) fields.toList hfk
        have hpm : (parts.map fun (i, x) => (i, a.eval x)).toList = parts.toList.map fun p => (p.1, a.eval p.2) := by simp
        have hzv : (zeroValue t).run E.P w = .ok (Value.agg zv.toArray) w := by simp [zeroValue, typeInfo, hi, hz]
        simp only [execOp, Instr.build, Sem.run_bind, hzv, Result.andThen_ok, run_underlying hu]
        rw [← Array.toArray_toList (xs := fields), List.mapM_toArray]
        simp only [Sem.run_bind, Sem.run_map, hpl, Result.andThen_ok]
        rw [hpm]
        simp only [Value.cells]
        rw [h6]
        simp
      · simp at h
  · simp at h

/-! ### Rows -/
def valsA (T : Nat → AV) (w : Nat) : List (Nat × Operand) → Nat → Bool
  | [], _ => true
  | (i, X) :: r, k => Nat.beq i k && (ev T X).plain && Nat.beq (ev T X).cells.length w && valsA T w r (k + 1)

def rowF (td : Nat → TD) (T : Nat → AV) (H : Nat → HO) (d : Nat) (t : TypeId) (len : Nat) (parts : Array (Nat × Operand)) : Option SR :=
  match (td t).kind with
  | .slice e => match td e, H d with
    | ⟨kd, w, _, _⟩, .free => bif kd.known && Nat.ble 1 w && Nat.ble (len * w) 16777216 && Nat.beq len parts.toList.length && valsA T w parts.toList 0 then
        heads (parts.toList.map fun p => ev T p.2) (fun l => some ⟨[d], [(d, .arr e w l)], .sl false d w 0 len⟩) else none
    | _, _ => none
  | _ => none

theorem fill_row {m : Mem} {a : Act} {w : Nat} : ∀ (parts : List (Nat × Operand)) (k : Nat) (cells : Array Value), valsA T w parts k = true → (∀ p ∈ parts, R m (ev T p.2) (a.eval p.2)) → (k + parts.length) * w ≤ cells.size →
    ∃ cells', Instr.fill (fun i => some (i * w, w)) cells (parts.map fun p => (p.1, a.eval p.2)) = some cells' ∧ cells'.size = cells.size ∧ (∀ j, j < k * w → cells'[j]? = cells[j]?) ∧ RRow m cells' w (k * w) (parts.map fun p => ev T p.2)
  | [], k, cells, _, _, _ => ⟨cells, rfl, rfl, fun _ _ => rfl, trivial⟩
  | (i, X) :: r, k, cells, hv, hT, hsz => by
    simp only [valsA, Bool.and_eq_true] at hv
    obtain ⟨⟨⟨h1, h2⟩, h3⟩, h4⟩ := hv
    obtain rfl := Nat.eq_of_beq_eq_true h1
    have h3 := Nat.eq_of_beq_eq_true h3
    have hc := R_cells h2 (hT (i, X) (by simp))
    have hsize : (a.eval X).cells.size = w := by rw [← Array.length_toList, RS_len hc, h3]
    have e1 : (i + (r.length + 1)) * w = i * w + w + r.length * w := by rw [Nat.add_mul, Nat.add_mul, Nat.one_mul]; omega
    have e2 : (i + 1 + r.length) * w = i * w + w + r.length * w := by rw [Nat.add_mul, Nat.add_mul, Nat.one_mul]
    have e3 : (i + 1) * w = i * w + w := by rw [Nat.add_mul, Nat.one_mul]
    simp only [List.length_cons] at hsz
    rw [e1] at hsz
    obtain ⟨h5, h6⟩ := fold_cells (a.eval X).cells.toList 0 (i * w) cells (by simp; omega)
    rw [← zip_fold] at h5
    obtain ⟨cells', h7, h8, h9, h10⟩ := fill_row r (i + 1) ((a.eval X).cells.zipIdx.foldl (fun cs (c, j) => cs.setIfInBounds (i * w + j) c) cells) h4 (fun p hp => hT p (by simp [hp])) (by rw [h5, e2]; omega)
    refine ⟨cells', ?_, by rw [h8, h5], fun j hj => ?_, ⟨⟨a.eval X, hT (i, X) (by simp), hsize, fun j hj => ?_⟩, by rw [← e3]; exact h10⟩⟩
    · simp only [List.map_cons, Instr.fill]
      rw [if_neg (by simp; omega)]
      exact h7
    · rw [h9 j (by omega), zip_fold, h6 j, if_neg (by omega)]
    · rw [h9 _ (by omega), zip_fold, h6 _, if_pos (by simp; omega)]
      simp

theorem OpL.row {t : TypeId} {len : Nat} {parts : Array (Nat × Operand)} {rd : List Nat} {post : List (Nat × HO)} {v : AV} {i : Nat} (h : rowF E.td T H i t len parts = some ⟨rd, post, v⟩) : OpL E ⟨some i, .buildSlice t len parts, ty, pos, af, g⟩ T H rd post v := by
  unfold rowF at h
  split at h
  · rename_i e hk
    split at h
    · rename_i kd wd by_ z htd hf
      cases hc : (kd.known && Nat.ble 1 wd && Nat.ble (len * wd) 16777216 && Nat.beq len parts.toList.length && valsA T wd parts.toList 0) with
      | false => rw [hc] at h; simp at h
      | true =>
        rw [hc, cond_true, heads_eq] at h
        simp only [Option.some.injEq, SR.mk.injEq] at h
        obtain ⟨rfl, rfl, rfl⟩ := h
        simp only [Bool.and_eq_true] at hc
        obtain ⟨⟨⟨⟨c1, c2⟩, c3⟩, c4⟩, c5⟩ := hc
        have c2 := Nat.le_of_ble_eq_true c2
        have c3 := Nat.le_of_ble_eq_true c3
        have c4 := Nat.eq_of_beq_eq_true c4
        refine ⟨fun r n m a w r0 w0 mu H' next Q hT hM hr hn => ?_⟩
        have hf' : H' i = .free := by rw [hr i (by simp)]; exact hf
        have hke : (E.td e).kind ≠ .other := by rw [htd]; exact TK.known_ne c1
        obtain ⟨_, inf, zv, _, hi, _, hs, _, hz, _, hzs⟩ := Env.facts hke
        rw [htd] at hs hzs
        dsimp only at hs hzs
        have hTp : ∀ p ∈ parts.toList, R m (ev T p.2) (a.eval p.2) := fun p hp => hT p.2 (by simp [Op.operands]; exact ⟨p.1, by simpa using hp⟩)
        have hpm : (parts.map fun (i, x) => (i, a.eval x)).toList = parts.toList.map fun p => (p.1, a.eval p.2) := by simp
        have key : ∀ cells0 : Array Value, cells0.size = len * wd → ∃ cells', Instr.fill (fun i => some (i * wd, wd)) cells0 (parts.toList.map fun p => (p.1, a.eval p.2)) = some cells' ∧ cells'.size = len * wd ∧ RRow m cells' wd 0 (parts.toList.map fun p => ev T p.2) := by
          intro cells0 h0
          obtain ⟨cells', h1, h2, _, h3⟩ := fill_row parts.toList 0 cells0 c5 hTp (by rw [Nat.zero_add, ← c4, h0]; exact Nat.le_refl _)
          exact ⟨cells', h1, by rw [h2, h0], by simpa using h3⟩
        have hund := Env.und_slice hk
        have hso := Env.run_sizeOf (E := E) (t := e) hke w
        rw [htd] at hso
        dsimp only at hso
        have hcap : len ≤ maxLen := by
          have h1 : len ≤ len * wd := Nat.le_mul_of_pos_right _ c2
          have h2 : len ≤ 16777216 := Nat.le_trans h1 c3
          exact Nat.le_trans h2 (by decide)
        have fin : ∀ cells', cells'.size = len * wd → RRow m cells' wd 0 (parts.toList.map fun p => ev T p.2) →
            (execOp a.eval ⟨some i, .buildSlice t len parts, ty, pos, af, g⟩).run E.P w = .ok (.value (.slice (some ⟨w.heap.size, 0, none⟩) len len)) (w.alloc (.cells cells' e)) → Oper.wpIn (Wf r) n E.P ⟨some i, .buildSlice t len parts, ty, pos, af, g⟩ a w next Q := by
          intro cells' h1 h2 h3
          obtain ⟨hle, hM'⟩ := hM.new hf' e wd len _ cells' h1 (by simp [← c4]) h2
          exact wpIn_value (by simp) h3 (hn _ _ _ hle hM' ⟨some ⟨w.heap.size, len⟩, by simp [Mem.bind], ⟨_, rfl, by simp, hcap, fun _ => by simp⟩, fun hh => by simp at hh⟩)
        have hrow : ∀ (cells' : Array Value), (newRow e cells').run E.P w = .ok ⟨w.heap.size, 0, none⟩ (w.alloc (.cells cells' e)) := fun _ => rfl
        by_cases h0 : len * wd = 0
        · obtain ⟨cells', h1, h2, h3⟩ := key ((Array.range (len * wd)).map fun j => (#[] : Array Value)[j % (#[] : Array Value).size]!) (by simp)
          refine fin cells' h2 h3 ?_
          simp only [execOp, Instr.buildSlice, Sem.run_bind, run_underlying hund, Result.andThen_ok, hso]
          rw [if_neg (by omega)]
          simp only [Sem.run_pure, Sem.run_bind, Result.andThen_ok, if_pos h0]
          rw [hpm, h1]
          simp [hrow]
        · obtain ⟨cells', h1, h2, h3⟩ := key ((Array.range (len * wd)).map fun j => zv.cells[j % zv.cells.size]!) (by simp)
          refine fin cells' h2 h3 ?_
          simp only [execOp, Instr.buildSlice, Sem.run_bind, run_underlying hund, Result.andThen_ok, hso]
          rw [if_neg (by omega)]
          have hzv : (zeroValue e).run E.P w = .ok zv w := by simp [zeroValue, typeInfo, hi, hz]
          simp only [Sem.run_pure, Sem.run_bind, Result.andThen_ok, if_neg h0, hzv]
          rw [hpm, h1]
          simp [hrow]
    · simp at h
  · simp at h
end
end Go.Proofs.YtfbjoamdkieamaaGreat.AM
end

section
set_option linter.unusedSimpArgs false
set_option linter.unusedVariables false
namespace Go.Proofs.YtfbjoamdkieamaaGreat.AM
open Go

theorem solids_mem {l : List AV} (h : l.all AV.solid = true) : ∀ x ∈ l, x.solid = true := fun x hx => List.all_eq_true.1 h x hx
theorem solid_map {α : Type} {f : α → AV} (h : ∀ a, (f a).solid = true) (xs : List α) : ∀ x ∈ xs.map f, x.solid = true := fun x hx => by
  obtain ⟨a, _, rfl⟩ := List.mem_map.1 hx
  exact h a

/-- A nil slice is a row with no element. -/
theorem AS.sub.nilrow {s : AS} (d id e w : Nat) {w0 : Nat} (hd : s.t d = .list true w0 []) (hf : s.h id = .free) : s.sub ⟨upd s.t d (.sl true id w 0 0), upd s.h id (.arr e w []), s.k⟩ := by
  refine ⟨fun X nt a w' ⟨m, hD⟩ => ?_⟩
  have hM := hD.mem
  have hnone : m.at_ id = none := by have := hM.obj id; rw [hf] at this; exact this
  have hle : m.le (m.bind id none) := Mem.le_bind hnone
  refine ⟨m.bind id none, hD.size, hD.defers.mono hle.ro, hD.le.trans hle, hD.ids, fun i => ?_, ?_⟩
  · by_cases hi : i = d
    · subst hi
      show R _ (upd s.t i _ i) _
      rw [upd_same]
      have h1 := hD.tmps i
      rw [hd] at h1
      obtain ⟨ad, cap, h2, _, _, h3, _⟩ := h1
      obtain ⟨rfl, rfl⟩ := h3 rfl rfl
      exact ⟨none, Mem.bind_at _ _ _, ⟨h2, rfl, rfl⟩, fun _ _ => rfl⟩
    · show R _ (upd s.t d _ i) _
      rw [upd_ne _ _ _ _ hi]
      exact R.mono hle _ _ (hD.tmps i)
  · refine hM.turn id (.arr e w []) (fun _ => False) hle rfl (fun i hi => by simp [Mem.bind, hi]) rfl rfl rfl (Nat.le_refl _) (fun _ _ _ => rfl) (fun _ h => h.elim) ?_ ?_
    · exact ⟨none, Mem.bind_at _ _ _, fun _ => rfl, fun L hL => by cases hL⟩
    · intro _ L hL
      rw [Mem.bind_at] at hL
      cases hL

section
variable {E : Env} {X : Ctx} {nt : Nat} {ops : Array Oper} {l : List Oper} {K : AS → Prop} {t : Nat → AV} {h : Nat → HO} {k : List Nat} {i : Nat} {ty : TypeId} {pos : String} {af : Array Edge} {rd : List Nat} {post : List (Nat × HO)} {v : AV}

theorem OpL.app {d : Option Tmp} {g : Option (Nat × Bool)} {T : Nat → AV} {H : Nat → HO} {t e w by_ len id : Nat} {S X : Operand} {c c' : Bool} {l xs : List AV} {k : TK} {z : AV} {id' t' len' : Nat} (hs : ev T S = .sl c id w 0 len) (hX : ev T X = .sl c' id' w 0 len') (hH : H id = .arr e w l)
    (hH' : H id' = .arr t' w xs) (hk : (E.td t).kind = .slice e) (he : E.td e = ⟨k, w, by_, z⟩) (hk' : k.known = true) (hw0 : Nat.ble 1 w = true) (hb0 : Nat.ble 1 by_ = true) (hf : H (idOf d) = .free) (hsol : xs.all AV.solid = true)
    (hlen : len = l.length) (hlen' : len' = xs.length) (hroom : (l.length + xs.length) * by_ ≤ 140737488355328) :
    OpL E ⟨d, .call { callee := .builtin .append, args := #[S, X], argTypes := #[t, t] }, ty, pos, af, g⟩ T H [id, idOf d, id'] [(idOf d, .arr e w (l ++ xs)), (id, .dead)] (.sl c (idOf d) w 0 (l.length + xs.length)) :=
  OpL.append_sl hs hH hlen (.sl hX hH' hlen') hk he (TK.known_ne hk') (Nat.le_of_ble_eq_true hw0) (Nat.le_of_ble_eq_true hb0) hf (solids_mem hsol) hroom

theorem OpL.appl {α : Type} {f : α → AV} {d : Option Tmp} {g : Option (Nat × Bool)} {T : Nat → AV} {H : Nat → HO} {t e w by_ len id : Nat} {S X : Operand} {c c' : Bool} {l : List AV} {xs : List α} {k : TK} {z : AV} (hs : ev T S = .sl c id w 0 len) (hX : ev T X = .list c' w (xs.map f)) (hH : H id = .arr e w l)
    (hk : (E.td t).kind = .slice e) (he : E.td e = ⟨k, w, by_, z⟩) (hk' : k.known = true) (hw0 : Nat.ble 1 w = true) (hb0 : Nat.ble 1 by_ = true) (hf : H (idOf d) = .free) (hsol : ∀ a, (f a).solid = true)
    (hlen : len = l.length) (hroom : (l.length + (xs.map f).length) * by_ ≤ 140737488355328) :
    OpL E ⟨d, .call { callee := .builtin .append, args := #[S, X], argTypes := #[t, t] }, ty, pos, af, g⟩ T H [id, idOf d] [(idOf d, .arr e w (l ++ xs.map f)), (id, .dead)] (.sl c (idOf d) w 0 (l.length + (xs.map f).length)) :=
  OpL.append_sl hs hH hlen (.list hX) hk he (TK.known_ne hk') (Nat.le_of_ble_eq_true hw0) (Nat.le_of_ble_eq_true hb0) hf (solid_map hsol _) hroom

theorem OpL.appn {d : Option Tmp} {g : Option (Nat × Bool)} {T : Nat → AV} {H : Nat → HO} {t e w w' by_ : Nat} {S X : Operand} {c' : Bool} {xs : List AV} {k : TK} {z : AV} {id' t' len' : Nat} (hs : ev T S = .list true w' []) (hX : ev T X = .sl c' id' w 0 len')
    (hH' : H id' = .arr t' w xs) (hk : (E.td t).kind = .slice e) (he : E.td e = ⟨k, w, by_, z⟩) (hk' : k.known = true) (hw0 : Nat.ble 1 w = true) (hb0 : Nat.ble 1 by_ = true) (hf : H (idOf d) = .free) (hsol : xs.all AV.solid = true)
    (hlen' : len' = xs.length) (hroom : xs.length * by_ ≤ 140737488355328) :
    OpL E ⟨d, .call { callee := .builtin .append, args := #[S, X], argTypes := #[t, t] }, ty, pos, af, g⟩ T H [idOf d, id'] [(idOf d, .arr e w xs)] (.sl true (idOf d) w 0 xs.length) :=
  OpL.append_nil hs (.sl hX hH' hlen') hk he (TK.known_ne hk') (Nat.le_of_ble_eq_true hw0) (Nat.le_of_ble_eq_true hb0) hf (solids_mem hsol) hroom

theorem OpL.appnl {α : Type} {f : α → AV} {d : Option Tmp} {g : Option (Nat × Bool)} {T : Nat → AV} {H : Nat → HO} {t e w w' by_ : Nat} {S X : Operand} {c' : Bool} {xs : List α} {k : TK} {z : AV} (hs : ev T S = .list true w' []) (hX : ev T X = .list c' w (xs.map f))
    (hk : (E.td t).kind = .slice e) (he : E.td e = ⟨k, w, by_, z⟩) (hk' : k.known = true) (hw0 : Nat.ble 1 w = true) (hb0 : Nat.ble 1 by_ = true) (hf : H (idOf d) = .free) (hsol : ∀ a, (f a).solid = true)
    (hroom : (xs.map f).length * by_ ≤ 140737488355328) :
    OpL E ⟨d, .call { callee := .builtin .append, args := #[S, X], argTypes := #[t, t] }, ty, pos, af, g⟩ T H [idOf d] [(idOf d, .arr e w (xs.map f))] (.sl true (idOf d) w 0 (xs.map f).length) :=
  OpL.append_nil hs (.list hX) hk he (TK.known_ne hk') (Nat.le_of_ble_eq_true hw0) (Nat.le_of_ble_eq_true hb0) hf (solid_map hsol _) hroom
end

/-! ### Structs that are compared -/
def AllEq : List (Int × Int) → Prop
  | [] => True
  | p :: r => p.1 = p.2 ∧ AllEq r
instance AllEq.dec : (l : List (Int × Int)) → Decidable (AllEq l)
  | [] => isTrue trivial
  | p :: r => match (inferInstance : Decidable (p.1 = p.2)), AllEq.dec r with
    | isTrue h, isTrue h' => isTrue ⟨h, h'⟩
    | isFalse h, _ => isFalse fun x => h x.1
    | _, isFalse h => isFalse fun x => h x.2

/-- A struct of plain fields that can be compared. -/
def eqT (P : Program) (t : TypeId) : Bool :=
  match P.underlying t with
  | some (.struct fs) => fs.toList.all (fun f => f.name != "_" && (match P.underlying f.type with | some (.int _) => true | _ => false)) && !P.stoodInHeld t && !P.eqGuardType P.depth t
  | _ => false

def intPairs (cs ds : List AV) : List (Nat × Nat) → Option (List (Int × Int))
  | [] => some []
  | (off, _) :: r => match cs[off]?, ds[off]? with
    | some (.int .i64 a), some (.int .i64 b) => match intPairs cs ds r with
      | some ps => some ((a, b) :: ps)
      | none => none
    | _, _ => none

theorem run_equalIn_int {P : Program} {t : TypeId} {q : IntKind} (h : P.underlying t = some (.int q)) (dp : Nat) (x y : Int) (w : World) : (Op.equalIn (dp + 1) t (.int .i64 x) (.int .i64 y)).run P w = .ok (x == y) w := by
  simp only [Op.equalIn, Sem.run_bind, run_underlying h, Result.andThen_ok, if_true, Sem.run_pure]

theorem RS_at {m : Mem} {xs : List AV} {vs : List Value} (h : RS m xs vs) {i : Nat} {k : IntKind} {n : Int} (hi : xs[i]? = some (.int k n)) : vs[i]? = some (.int k n) := by
  obtain ⟨hlt, he⟩ := List.getElem?_eq_some_iff.1 hi
  obtain ⟨v, h1, h2⟩ := RS_get h i hlt
  rw [gd hlt, he] at h2
  rw [h1, show v = .int k n from h2]

theorem run_eqFields_ints {P : Program} (d : Nat) (xs ys : Array Value) {m : Mem} {cs ds : List AV} (hx : RS m cs xs.toList) (hy : RS m ds ys.toList) (w : World) : ∀ (fs : List Field) (ps : List (Int × Int)),
    (fs.all (fun f => f.name != "_" && (match P.underlying f.type with | some (.int _) => true | _ => false)) = true) → intPairs cs ds (fs.map fun f => (f.offset, f.type)) = some ps → (Op.eqFields (d + 1) xs ys fs).run P w = .ok (decide (AllEq ps)) w
  | [], ps, _, h => by
    simp only [List.map_nil, intPairs, Option.some.injEq] at h
    subst h
    simp only [Op.eqFields, Sem.run_pure]
    rfl
  | f :: fs, ps, hall, h => by
    simp only [List.all_cons, Bool.and_eq_true, bne_iff_ne, ne_eq] at hall
    obtain ⟨⟨hn, hk⟩, hrest⟩ := hall
    simp only [List.map_cons, intPairs] at h
    split at h
    · rename_i a b ha hb
      split at h
      · rename_i ps' hps
        simp only [Option.some.injEq] at h
        subst h
        have ih := run_eqFields_ints d xs ys hx hy w fs ps' (by simpa using hrest) hps
        cases hu : P.underlying f.type with
        | none => rw [hu] at hk; simp at hk
        | some k =>
          rw [hu] at hk
          cases k <;> simp at hk
          rename_i q
          have hp : P.plainKey f.type = true := by unfold Program.plainKey; rw [hu]
          have p1 := run_part_plain w hp (xs := xs) (off := f.offset) (by have := RS_at hx ha; simpa using this)
          have p2 := run_part_plain w hp (xs := ys) (off := f.offset) (by have := RS_at hy hb; simpa using this)
          have p3 := run_equalIn_int hu d a b w
          simp only [Op.eqFields, hn, ne_eq, not_false_eq_true, if_true, Sem.run_bind, p1, p2, p3, Result.andThen_ok]
          by_cases hab : a = b
          · subst hab
            simp only [beq_self_eq_true, Bool.not_true, Bool.false_eq_true, if_false, ih]
            congr 1
            simp [AllEq]
          · have : (a == b) = false := by simpa using hab
            simp only [this, Bool.not_false, if_true, Sem.run_pure]
            congr 1
            simp [AllEq, hab]
      · simp at h
    · simp at h

section
variable {E : Env} {T : Nat → AV} {H : Nat → HO} {d : Option Tmp} {ty : TypeId} {pos : String} {af : Array Edge} {g : Option (Nat × Bool)}

theorem run_eqs {t : TypeId} {cs ds : List AV} {fs : List (Nat × Nat)} {ps : List (Int × Int)} (hq : eqT E.P t = true) (hk : (E.td t).kind = .struct fs) (hp : intPairs cs ds fs = some ps) {m : Mem} {vs us : List Value} (hx : RS m cs vs) (hy : RS m ds us) (w : World) :
    (Op.equal t (.agg vs.toArray) (.agg us.toArray)).run E.P w = .ok (decide (AllEq ps)) w ∧ E.P.eqGuardType E.P.depth t = false := by
  obtain ⟨fields, hu, hfs⟩ := Env.und_struct hk
  unfold eqT at hq
  rw [hu] at hq
  simp only [Bool.and_eq_true, Bool.not_eq_true'] at hq
  obtain ⟨hq, hg⟩ := hq
  refine ⟨?_, hg⟩
  have hf : E.P.fieldsOf t = fields := by simp [Program.fieldsOf, hu]
  have h := run_eqFields_ints (P := E.P) 9998 vs.toArray us.toArray (m := m) (by simpa using hx) (by simpa using hy) w fields.toList ps hq.1 (by rw [hfs]; exact hp)
  show (Op.equalIn (9999 + 1) t _ _).run E.P w = _
  rw [run_equalIn_struct w 9999 t vs.toArray us.toArray (by rw [hf]; exact hu) hq.2, hf]
  exact h

theorem OpL.eqs {t yt : TypeId} {X Y : Operand} {cs ds : List AV} {fs : List (Nat × Nat)} {ps : List (Int × Int)} (hq : eqT E.P t = true) (hx : ev T X = .agg cs) (hy : ev T Y = .agg ds) (hk : (E.td t).kind = .struct fs) (hp : intPairs cs ds fs = some ps) :
    OpL E ⟨d, .binOp .eql t X Y yt, ty, pos, af, g⟩ T H [] [] (.bool (decide (AllEq ps))) :=
  OpL.pure (by simp) fun m a w hT => by
    have h1 := hT X (by simp [Op.operands])
    have h2 := hT Y (by simp [Op.operands])
    rw [hx] at h1
    rw [hy] at h2
    obtain ⟨vs, h1, h3⟩ := h1
    obtain ⟨us, h2, h4⟩ := h2
    obtain ⟨h5, h6⟩ := run_eqs hq hk hp h3 h4 w
    refine ⟨.bool (decide (AllEq ps)), ?_, rfl⟩
    simp only [execOp, h1, h2, eqGuard, binOp, Sem.run_bind, Sem.run_pure]
    simp [h6]
    rw [h5]
    rfl
theorem OpL.nes {t yt : TypeId} {X Y : Operand} {cs ds : List AV} {fs : List (Nat × Nat)} {ps : List (Int × Int)} (hq : eqT E.P t = true) (hx : ev T X = .agg cs) (hy : ev T Y = .agg ds) (hk : (E.td t).kind = .struct fs) (hp : intPairs cs ds fs = some ps) :
    OpL E ⟨d, .binOp .neq t X Y yt, ty, pos, af, g⟩ T H [] [] (.bool (decide (¬ AllEq ps))) :=
  OpL.pure (by simp) fun m a w hT => by
    have h1 := hT X (by simp [Op.operands])
    have h2 := hT Y (by simp [Op.operands])
    rw [hx] at h1
    rw [hy] at h2
    obtain ⟨vs, h1, h3⟩ := h1
    obtain ⟨us, h2, h4⟩ := h2
    obtain ⟨h5, h6⟩ := run_eqs hq hk hp h3 h4 w
    refine ⟨.bool (!decide (AllEq ps)), ?_, by rw [R, decide_not]⟩
    simp only [execOp, h1, h2, eqGuard, binOp, Sem.run_bind, Sem.run_pure]
    simp [h6]
    rw [h5]
    rfl
end

section
variable {E : Env} {T : Nat → AV} {H : Nat → HO} {d : Option Tmp} {ty : TypeId} {pos : String} {af : Array Edge} {g : Option (Nat × Bool)}
theorem OpL.remn {t yt : TypeId} {X Y : Operand} {x y : Int} (hx : ev T X = .int .i64 x) (hy : ev T Y = .int .i64 y) (h : 0 ≤ x ∧ x ≤ 9223372036854775807) (h0 : 0 < y) :
    OpL E ⟨d, .binOp .rem t X Y yt, ty, pos, af, g⟩ T H [] [] (.int .i64 (x % y)) := by
  have h1 := OpL.rem (E := E) (H := H) (d := d) (t := t) (yt := yt) (ty := ty) (pos := pos) (af := af) (g := g) hx hy (by omega)
  have h2 : x.tmod y = x % y := Int.tmod_eq_emod_of_nonneg h.1
  rw [h2] at h1
  exact h1
theorem OpL.quon {t yt : TypeId} {X Y : Operand} {x y : Int} (hx : ev T X = .int .i64 x) (hy : ev T Y = .int .i64 y) (h : 0 ≤ x ∧ x ≤ 9223372036854775807) (h0 : 0 < y) :
    OpL E ⟨d, .binOp .quo t X Y yt, ty, pos, af, g⟩ T H [] [] (.int .i64 (x / y)) := by
  have h1 := OpL.quo (E := E) (H := H) (d := d) (t := t) (yt := yt) (ty := ty) (pos := pos) (af := af) (g := g) hx hy (by omega)
  have h2 : x.tdiv y = x / y := Int.tdiv_eq_ediv_of_nonneg h.1
  have h3 : 0 ≤ x / y := Int.ediv_nonneg h.1 (by omega)
  have h4 : x / y ≤ x := Int.ediv_le_self _ h.1
  rw [h2, wrap_i64 (by omega) (by omega)] at h1
  exact h1
end

/-- A list has no more elements than a slice may have. -/
theorem GoC.bnd {E : Env} {X : Ctx} {nt : Nat} {c : Code} {Q : Exit → AS → Prop} {s : AS} (d : Nat) {α : Type} {f : α → AV} {b : Bool} {w : Nat} {l : List α} (hd : s.t d = .list b w (l.map f)) (h : l.length ≤ 9223372036854775807 → GoC E X nt c Q s) : GoC E X nt c Q s := by
  refine ⟨fun a wd hD => ?_⟩
  have hD' := hD
  obtain ⟨m, hD'⟩ := hD'
  have h1 := hD'.tmps d
  rw [hd] at h1
  obtain ⟨ad, cap, _, h2, h3, _⟩ := h1
  exact (h (by rw [List.length_map] at h2; exact Nat.le_trans h2 (Nat.le_trans h3 (by decide)))).out a wd hD

section
variable {E : Env} {T : Nat → AV} {H : Nat → HO} {d : Option Tmp} {ty : TypeId} {pos : String} {af : Array Edge} {g : Option (Nat × Bool)}
theorem OpL.idxn {α : Type} [Inhabited α] {t : TypeId} {X I : Operand} {c : Bool} {w e : Nat} {xs : List α} {f : α → AV} {k : IntKind} {n : Int} {td : TD} (hx : ev T X = .list c w (xs.map f)) (hI : ev T I = .int k n)
    (hk : (E.td t).kind = .slice e) (ht : E.td e = td) (he : td.kind.known = true) (hw : td.size = w) (hi : 0 ≤ n ∧ n < xs.length) : OpL E ⟨d, .indexAddr t X I, ty, pos, af, g⟩ T H [] [] (.ref (f (xs.getD n.toNat default)) 0) :=
  OpL.idx (i := n.toNat) hx hI (by omega) hk ht he hw (by omega)
theorem OpL.idx_sn {t : TypeId} {X I : Operand} {c : Bool} {id w len e : Nat} {k : IntKind} {n : Int} {td : TD} (hx : ev T X = .sl c id w 0 len) (hI : ev T I = .int k n)
    (hk : (E.td t).kind = .slice e) (ht : E.td e = td) (he : td.kind.known = true) (hw : td.size = w) (hi : 0 ≤ n ∧ n < len) : OpL E ⟨d, .indexAddr t X I, ty, pos, af, g⟩ T H [] [] (.ptr id w n.toNat 0) :=
  OpL.idx_s (i := n.toNat) hx hI (by omega) hk ht he hw (Nat.zero_add _) (by omega)
end

/-- A result that a cell holds. -/
theorem RetOK.cellF {E : Env} {s : AS} {a : Tmp} {ty : TypeId} {rs : List ResultVar} {vs : List AV} {id w i o tt : Nat} {l : List AV} {x v : AV} {r : SR} (ha : s.t a = .ptr id w i o) (hH : s.h id = .arr tt w l) (hx : l[i]? = some x) (hl : loadF (E.td ty) x o [] = some r) (hv : r.v = v)
    (h' : RetOK E s rs vs) : RetOK E s (.cell a ty :: rs) (v :: vs) := by
  obtain ⟨h1, h2⟩ := List.getElem?_eq_some_iff.1 hx
  obtain ⟨_, _, h3⟩ := loadF_ok hl
  subst hv
  refine RetOK.cell ha hH h1 (x := r.v) ?_ (Wk.refl _) h'
  rw [gd h1, h2]
  exact h3
theorem Fz.mp {α : Type} {f : α → AV} {H : Nat → HO} {S : List Nat} {c : Bool} {id t w len : Nat} {xs : List α} (hS : S.contains id = true) (hH : H id = .arr t w (xs.map f)) (hn : ∀ a, (f a).noId = true) (h : len = (xs.map f).length) : Fz H S (.sl c id w 0 len) (.list c w (xs.map f)) :=
  .all (by simpa using hS) hH (noId_map hn _) h
theorem FnPost.sub {E : Env} {s s' : AS} {rvs : List ResultVar} {K : AV → (Nat → HO) → Prop} {e : Exit} (h : FnPost E rvs K e s') (hs : s.sub s') : FnPost E rvs K e s := by
  cases e with
  | normal => obtain ⟨s2, h1, h2⟩ := h; exact ⟨s2, hs.trans h1, h2⟩
  | ret => obtain ⟨s2, h1, h2⟩ := h; exact ⟨s2, hs.trans h1, h2⟩
  | exit i => exact h.elim
  | goto i => exact h.elim
  | panic c => exact h.elim
  | outgrown => exact h.elim
theorem FnPost.frz {E : Env} {s : AS} {rvs : List ResultVar} {K : AV → (Nat → HO) → Prop} {e : Exit} (S : List Nat) (ds : List (Nat × AV)) (os : List (Nat × HO)) (hd : FzL s S ds) (ho : FzO s S os)
    (h : FnPost E rvs K e ⟨updL s.t ds, updL (updL s.h (S.map fun i => (i, .dead))) os, s.k⟩) : FnPost E rvs K e s := FnPost.sub h (AS.sub.frzo S ds os hd ho)
theorem GoC.frz {E : Env} {X : Ctx} {nt : Nat} {c : Code} {Q : Exit → AS → Prop} {s : AS} (S : List Nat) (ds : List (Nat × AV)) (os : List (Nat × HO)) (hd : FzL s S ds) (ho : FzO s S os)
    (h : GoC E X nt c Q ⟨updL s.t ds, updL (updL s.h (S.map fun i => (i, .dead))) os, s.k⟩) : GoC E X nt c Q s := GoC.sub (AS.sub.frzo S ds os hd ho) h

/-! ### Stores into an object of one element -/
def storeF (td : TD) (x : AV) (H : Nat → HO) (y : AV) : Option SR :=
  match x with
  | .ptr id w 0 o => match H id, hn y with
    | .arr tt w' [x], some q => bif Nat.beq w' w && q.v.solid && td.kind.known && Nat.beq td.size q.v.cells.length then
        (match o, Nat.beq q.v.cells.length w with
        | 0, true => some ⟨[id], [(id, .arr tt w [q.v])], .junk⟩
        | o, _ => match x with
          | .agg cs => bif Nat.ble (o + q.v.cells.length) cs.length then heads (cs.take o ++ q.v.cells ++ cs.drop (o + q.v.cells.length)) (fun zs => some ⟨[id], [(id, .arr tt w [.agg zs])], .junk⟩) else none
          | _ => none) else none
    | _, _ => none
  | _ => none

theorem OpL.st1 {E : Env} {T : Nat → AV} {H : Nat → HO} {d : Option Tmp} {ty : TypeId} {pos : String} {af : Array Edge} {g : Option (Nat × Bool)} {t : TypeId} {X Y : Operand} {rd : List Nat} {post : List (Nat × HO)} {v : AV} (h : storeF (E.td t) (ev T X) H (ev T Y) = some ⟨rd, post, v⟩) :
    OpL E ⟨d, .store t X Y, ty, pos, af, g⟩ T H rd post v := by
  unfold storeF at h
  split at h
  · rename_i id w o hx
    split at h
    · rename_i tt w' x q hH hq
      have hq' := hn_eq hq
      subst hq'
      cases hc : (Nat.beq w' w && (ev T Y).solid && (E.td t).kind.known && Nat.beq (E.td t).size (ev T Y).cells.length) with
      | false => rw [hc] at h; simp at h
      | true =>
        rw [hc, cond_true] at h
        simp only [Bool.and_eq_true] at hc
        obtain ⟨⟨⟨c1, c2⟩, c3⟩, c4⟩ := hc
        obtain rfl := Nat.eq_of_beq_eq_true c1
        have c5 := Nat.eq_of_beq_eq_true c4
        split at h
        · rename_i hw
          simp only [Option.some.injEq, SR.mk.injEq] at h
          obtain ⟨rfl, rfl, rfl⟩ := h
          have hw' := Nat.eq_of_beq_eq_true hw
          exact OpL.stw hx rfl hH rfl c2 hw (by rw [c3, c5, hw']; simp) rfl
        · split at h
          · rename_i cs
            rename_i o' _ _ _ _
            dsimp only at h
            cases hb' : Nat.ble (o' + (ev T Y).cells.length) cs.length with
            | false => rw [hb'] at h; simp at h
            | true =>
              rw [hb', cond_true, heads_eq] at h
              simp only [Option.some.injEq, SR.mk.injEq] at h
              obtain ⟨rfl, rfl, rfl⟩ := h
              exact OpL.stp hx rfl hH rfl rfl c2 (by rw [c3, c4]; rfl) hb' rfl
          · simp at h
    · simp at h
  · simp at h
theorem GoOps.bnd {E : Env} {X : Ctx} {nt : Nat} {ops : Array Oper} {ol : List Oper} {K : AS → Prop} {s : AS} (d : Nat) {α : Type} {f : α → AV} {b : Bool} {w : Nat} {l : List α} (hd : s.t d = .list b w (l.map f)) (h : l.length ≤ 9223372036854775807 → GoOps E X nt ops ol K s) : GoOps E X nt ops ol K s := by
  refine ⟨fun hl Q' a wd hQ hD => ?_⟩
  have hD' := hD
  obtain ⟨m, hD'⟩ := hD'
  have h1 := hD'.tmps d
  rw [hd] at h1
  obtain ⟨ad, cap, _, h2, h3, _⟩ := h1
  exact (h (by rw [List.length_map] at h2; exact Nat.le_trans h2 (Nat.le_trans h3 (by decide)))).out hl Q' a wd hQ hD

section
variable {E : Env} {T : Nat → AV} {H : Nat → HO} {d : Option Tmp} {ty : TypeId} {pos : String} {af : Array Edge} {g : Option (Nat × Bool)}
theorem OpL.sto {α : Type} {f : α → AV} {t e w : Nat} {X Y : Operand} {c : Bool} {xs : List α} {k : IntKind} {n : Int} (hx : ev T X = .list c w (xs.map f)) (hy : ev T Y = .int k n) (hk : (E.td t).kind = .slice e) (he : (E.td e).kind.known = true)
    (hw : (E.td e).size = w) (hn : 0 ≤ n ∧ n ≤ xs.length) : OpL E ⟨d, .slice t X none (some Y) none, ty, pos, af, g⟩ T H [] [] (.list false w ((xs.take n.toNat).map f)) := by
  have h := OpL.slice_to (E := E) (H := H) (d := d) (ty := ty) (pos := pos) (af := af) (g := g) (b := n.toNat) hx hk (TK.known_ne he) hw (.val _ hy (by omega)) (by rw [List.length_map]; omega)
  rwa [← List.map_take] at h
theorem OpL.sfr {α : Type} {f : α → AV} {t e w : Nat} {X Y : Operand} {c : Bool} {xs : List α} {k : IntKind} {n : Int} (hx : ev T X = .list c w (xs.map f)) (hy : ev T Y = .int k n) (hk : (E.td t).kind = .slice e) (he : (E.td e).kind.known = true)
    (hw : (E.td e).size = w) (hn : 0 ≤ n ∧ n ≤ xs.length) : OpL E ⟨d, .slice t X (some Y) none none, ty, pos, af, g⟩ T H [] [] (.list false w ((xs.drop n.toNat).map f)) := by
  have h := OpL.slice_from (E := E) (H := H) (d := d) (ty := ty) (pos := pos) (af := af) (g := g) (a := n.toNat) hx hk (TK.known_ne he) hw (.val _ hy (by omega)) (by rw [List.length_map]; omega)
  rwa [← List.map_drop] at h
end
end Go.Proofs.YtfbjoamdkieamaaGreat.AM
end

section
set_option linter.unusedSimpArgs false
set_option linter.unusedVariables false
set_option linter.unusedSectionVars false
namespace Go.Proofs.YtfbjoamdkieamaaGreat.AM
open Go
open Go.ChangeMaps (setBlock)

section
variable {κ ν : Type} [DecidableEq κ]
def mput : List (κ × ν) → κ → ν → List (κ × ν)
  | [], a, v => [(a, v)]
  | p :: r, a, v => if a = p.1 then (a, v) :: r else p :: mput r a v
def mget : List (κ × ν) → κ → Option ν
  | [], _ => none
  | p :: r, a => if a = p.1 then some p.2 else mget r a
def mix : List (κ × ν) → κ → Nat
  | [], _ => 0
  | p :: r, a => if a = p.1 then 0 else mix r a + 1
def ents (fk : κ → AV) (fv : ν → AV) (l : List (κ × ν)) : List (AV × AV) := l.map fun p => (fk p.1, fv p.2)

def findM (a : κ) : List (κ × ν) → List MapEntry → Nat → Option (Nat × Value)
  | p :: l, e :: es, i => if a = p.1 then some (i, e.val) else findM a l es (i + 1)
  | _, _, _ => none

/-- Keys that are told apart by what they are. -/
structure KeyT (P : Program) (t : TypeId) (fk : κ → AV) : Prop where
  noId : ∀ a, (fk a).noId = true
  check : ∀ (m : Mem) (w : World) (em : Bool) (a : κ) (u : Value), R m (fk a) u → (Instr.checkKey em 10000 t u).run P w = .ok () w
  find : ∀ {ν : Type} (m : Mem) (w : World) (a : κ) (u : Value) (k : Nat) (fv : ν → AV) (l : List (κ × ν)) (es : List MapEntry), R m (fk a) u → REnt m k (ents fk fv l) es → (Instr.findKey t u es).run P w = .ok (findM a l es 0) w
  same : ∀ (m : Mem) (a : κ) (u v : Value), R m (fk a) u → R m (fk a) v → Instr.sameBits 10000 u v = true

theorem findM_none {m : Mem} {fk : κ → AV} {fv : ν → AV} {a : κ} : ∀ {l : List (κ × ν)} {es : List MapEntry} {k i : Nat}, REnt m k (ents fk fv l) es → findM a l es i = none → mget l a = none ∧ mix l a = l.length ∧ ∀ v, mput l a v = l ++ [(a, v)]
  | [], es, k, i, _, _ => ⟨rfl, rfl, fun _ => rfl⟩
  | p :: l, es, k, i, hh, h => by
    obtain ⟨e, es', rfl, _, _, _, h5⟩ := hh
    simp only [findM] at h
    split at h
    · cases h
    · rename_i hne
      obtain ⟨h1, h2, h3⟩ := findM_none h5 h
      exact ⟨by simp [mget, hne, h1], by simp [mix, hne, h2], fun v => by simp [mput, hne, h3]⟩
theorem findM_some {m : Mem} {fk : κ → AV} {fv : ν → AV} {a : κ} : ∀ {l : List (κ × ν)} {es : List MapEntry} {k i j : Nat} {u : Value}, REnt m k (ents fk fv l) es → findM a l es i = some (j, u) →
    ∃ n v e, j = i + n ∧ n < l.length ∧ mget l a = some v ∧ mix l a = n ∧ l[n]? = some (a, v) ∧ es[n]? = some e ∧ e.val = u ∧ e.born = k + n ∧ R m (fk a) e.key ∧ R m (fv v) e.val ∧ ∀ x, mput l a x = l.set n (a, x)
  | [], es, k, i, j, u, _, h => by simp [findM] at h
  | p :: l, es, k, i, j, u, hh, h => by
    obtain ⟨e, es', rfl, h2, h3, h4, h5⟩ := hh
    simp only [findM] at h
    split at h
    · rename_i he
      subst he
      simp only [Option.some.injEq, Prod.mk.injEq] at h
      obtain ⟨rfl, rfl⟩ := h
      exact ⟨0, p.2, e, by simp, by simp, by simp [mget], by simp [mix], by simp, by simp, rfl, by simpa using h2, h3, h4, fun x => by simp [mput]⟩
    · rename_i hne
      obtain ⟨n, v, e', h6, h7, h8, h9, h10, h11, h12, h13, h14, h15, h16⟩ := findM_some h5 h
      exact ⟨n + 1, v, e', by omega, by simpa using h7, by simp [mget, hne, h8], by simp [mix, hne, h9], by simpa using h10, by simpa using h11, h12, by omega, h14, h15, fun x => by simp [mput, hne, h16]⟩

theorem mput_length (l : List (κ × ν)) (a : κ) (v : ν) : mix l a < (mput l a v).length ∧ mix (mput l a v) a = mix l a := by
  induction l with
  | nil => simp [mput, mix]
  | cons p l ih =>
    simp only [mput, mix]
    split
    · rename_i h; subst h; simp [mix]
    · rename_i h; simp [mix, h, ih]
theorem mput_set (l : List (κ × ν)) (a : κ) (v x : ν) : (mput l a v).set (mix l a) (a, x) = mput l a x := by
  induction l with
  | nil => rfl
  | cons p l ih =>
    simp only [mput, mix]
    split
    · rfl
    · simp [ih]
theorem mput_at (l : List (κ × ν)) (a : κ) (v : ν) : (mput l a v)[mix l a]? = some (a, v) := by
  induction l with
  | nil => rfl
  | cons p l ih =>
    simp only [mput, mix]
    split
    · rfl
    · simp [ih]

theorem REnt_append {m : Mem} : ∀ {k : Nat} {l l' : List (AV × AV)} {es es' : List MapEntry}, REnt m k l es → REnt m (k + l.length) l' es' → REnt m k (l ++ l') (es ++ es')
  | k, [], l', es, es', h, h' => by rw [show es = [] from h]; simpa using h'
  | k, p :: l, l', _, es', ⟨e, es1, rfl, h2, h3, h4, h5⟩, h' => ⟨e, es1 ++ es', rfl, h2, h3, h4, REnt_append h5 (by simpa [Nat.add_comm, Nat.add_left_comm, Nat.add_assoc] using h')⟩
theorem REnt_set {m : Mem} : ∀ {k n : Nat} {l : List (AV × AV)} {es : List MapEntry} {q : AV × AV} {e : MapEntry}, REnt m k l es → e.born = k + n → R m q.1 e.key → R m q.2 e.val → REnt m k (l.set n q) (es.set n e)
  | k, n, [], es, q, e, h, _, _, _ => by rw [show es = [] from h]; simp; rfl
  | k, 0, p :: l, _, q, e, ⟨e0, es1, rfl, h2, h3, h4, h5⟩, h6, h7, h8 => ⟨e, es1, rfl, by simpa using h6, h7, h8, h5⟩
  | k, n + 1, p :: l, _, q, e, ⟨e0, es1, rfl, h2, h3, h4, h5⟩, h6, h7, h8 => ⟨e0, es1.set n e, rfl, h2, h3, h4, REnt_set h5 (by omega) h7 h8⟩
theorem REnt_get {m : Mem} : ∀ {k : Nat} {l : List (AV × AV)} {es : List MapEntry}, REnt m k l es → ∀ n p, l[n]? = some p → ∃ e, es[n]? = some e ∧ e.born = k + n ∧ R m p.1 e.key ∧ R m p.2 e.val
  | k, [], es, h, n, p, hp => by simp at hp
  | k, q :: l, _, ⟨e, es1, rfl, h2, h3, h4, h5⟩, 0, p, hp => by
    simp at hp; subst hp
    exact ⟨e, rfl, by simpa using h2, h3, h4⟩
  | k, q :: l, _, ⟨e, es1, rfl, h2, h3, h4, h5⟩, n + 1, p, hp => by
    obtain ⟨e', h6, h7, h8, h9⟩ := REnt_get h5 n p (by simpa using hp)
    exact ⟨e', by simpa using h6, by omega, h8, h9⟩
theorem REnt_born {m : Mem} {k : Nat} {l : List (AV × AV)} {es : List MapEntry} (h : REnt m k l es) : ∀ n e, es[n]? = some e → e.born = k + n := fun n e he => by
  have hlt : n < es.length := (List.getElem?_eq_some_iff.1 he).1
  rw [h.length] at hlt
  obtain ⟨e', h1, h2, _⟩ := REnt_get h n _ (List.getElem?_eq_getElem hlt)
  rw [he] at h1
  cases h1
  exact h2
end

/-! ### The memory -/
section
variable {r0 : Nat → Option Obj} {w0 w : World} {mu : Nat → Prop} {m : Mem} {H : Nat → HO}

theorem setBlock_same {w : World} {b : Nat} {o : Obj} (h : b < w.heap.size) : (setBlock w b o).heap[b]? = some o := by simp [setBlock, h]
theorem setBlock_other {w : World} {b b' : Nat} {o : Obj} (h : b' ≠ b) : (setBlock w b o).heap[b']? = w.heap[b']? := by simp [setBlock, Ne.symm h]
theorem setBlock_size {w : World} {b : Nat} {o : Obj} : (setBlock w b o).heap.size = w.heap.size := by simp [setBlock]

theorem MemOK.setObj (hM : MemOK r0 w0 mu m H w) {id : Nat} {L : Loc} (hlive : (H id).live = true) (hat : m.at_ id = some (some L)) (o : Obj) (o' : HO) (hok : HOok m (setBlock w L.blk o) id o') : MemOK r0 w0 mu m (upd H id o') (setBlock w L.blk o) := by
  have hmine := hM.mine id L hlive hat
  refine hM.turn id o' (fun b => b = L.blk) (Mem.le.refl m) rfl (fun _ _ => rfl) rfl rfl rfl (by rw [setBlock_size]; exact Nat.le_refl _) (fun b _ hne => setBlock_other hne) ?_ hok ?_
  · rintro b rfl
    exact ⟨hmine.1, hmine.2, fun i L' hi hlv hL' => hM.apart i id L' L hi hlv hlive hL' hat⟩
  · intro _ L' hL'
    rw [hat] at hL'
    obtain rfl := Option.some.inj (Option.some.inj hL')
    exact ⟨hmine.1, hmine.2, fun i L'' hi hlv hL'' => hM.apart i id L'' L hi hlv hlive hL'' hat⟩

theorem MemOK.newObj (hM : MemOK r0 w0 mu m H w) {id : Nat} (hf : H id = .free) (o : Obj) (o' : HO) (hok : HOok (m.bind id (some ⟨w.heap.size, 0⟩)) (w.alloc o) id o') :
    m.le (m.bind id (some ⟨w.heap.size, 0⟩)) ∧ MemOK r0 w0 mu (m.bind id (some ⟨w.heap.size, 0⟩)) (upd H id o') (w.alloc o) := by
  have hnone : m.at_ id = none := by have := hM.obj id; rw [hf] at this; exact this
  have hle : m.le (m.bind id (some ⟨w.heap.size, 0⟩)) := Mem.le_bind hnone
  refine ⟨hle, hM.turn id o' (fun _ => False) hle rfl (fun i hi => by simp [Mem.bind, hi]) rfl rfl rfl (by rw [size_alloc]; omega)
    (fun b hb _ => heap_alloc_old hb) (fun _ h => h.elim) hok ?_⟩
  intro _ L hL
  simp [Mem.bind] at hL
  subst hL
  refine ⟨?_, fun h => absurd hM.size (by simpa using h), fun i L' hi hlv hL' => Nat.ne_of_lt (hM.live_blk hlv hL')⟩
  cases hr : m.ro w.heap.size with
  | none => rfl
  | some o => exact absurd (block_lt (hM.ro _ _ hr)) (Nat.lt_irrefl _)
end

theorem run_getObj {P : Program} {w : World} {r : Nat} {o : Obj} (h : w.heap[r]? = some o) (hc : ∀ c t f, o ≠ .cells c t f) : (getObj r).run P w = .ok o w := by
  simp only [getObj, Sem.run, h]
  all_goals (cases o <;> first | rfl | exact absurd rfl (hc _ _ _))
theorem run_setObj {P : Program} {w : World} {r : Nat} {o o' : Obj} (h : w.heap[r]? = some o) (hc : ∀ c t f, o ≠ .cells c t f) : (Go.setObj r o').run P w = .ok () (setBlock w r o') := by
  simp only [Go.setObj, Sem.run, h]
  cases o <;> first | rfl | exact absurd rfl (hc _ _ _)
theorem run_getMap {P : Program} {w : World} {r : Nat} {es : Array MapEntry} {c : Nat} (h : w.heap[r]? = some (.map es c)) : (getObj r).run P w = .ok (.map es c) w := run_getObj h (by simp)
theorem run_setMap {P : Program} {w : World} {r : Nat} {es : Array MapEntry} {c : Nat} (h : w.heap[r]? = some (.map es c)) (o' : Obj) : (Go.setObj r o').run P w = .ok () (setBlock w r o') := run_setObj h (by simp)

section
variable {E : Env} {T : Nat → AV} {H : Nat → HO} {d : Option Tmp} {ty : TypeId} {pos : String} {af : Array Edge} {g : Option (Nat × Bool)} {κ ν : Type} [DecidableEq κ] {fk : κ → AV} {fv : ν → AV}

theorem OpL.makeMap {t : TypeId} (hf : H (idOf d) = .free) : OpL E ⟨d, .makeMap t none, ty, pos, af, g⟩ T H [idOf d] [(idOf d, .map [])] (.omap (idOf d)) := by
  refine ⟨fun r n m a w r0 w0 mu H' next Q hT hM hr hn => ?_⟩
  have hf' : H' (idOf d) = .free := by rw [hr _ (by simp)]; exact hf
  obtain ⟨hle, hM'⟩ := hM.newObj hf' (.map #[] 0) (.map []) ⟨⟨w.heap.size, 0⟩, Mem.bind_at _ _ _, #[], heap_alloc_new, rfl⟩
  refine wpIn_value (by simp) (u := .map (some w.heap.size)) (w' := w.alloc (.map #[] 0)) ?_ (hn _ _ _ hle hM' ⟨_, Mem.bind_at _ _ _, rfl⟩)
  simp [execOp, Instr.makeMap, newObj, Sem.run]
  try rfl

theorem HOok.mapAt {m : Mem} {w : World} {id : Nat} {es : List (AV × AV)} {v : Value} (h : HOok m w id (.map es)) (hv : R m (.omap id) v) : ∃ L ents, m.at_ id = some (some L) ∧ v = .map (some L.blk) ∧ w.heap[L.blk]? = some (.map ents ents.size) ∧ REnt m 0 es ents.toList := by
  obtain ⟨L, h1, ents, h2, h3⟩ := h
  obtain ⟨L', h4, rfl⟩ := hv
  rw [h1] at h4
  obtain rfl := Option.some.inj (Option.some.inj h4)
  exact ⟨L, ents, h1, rfl, h2, h3⟩

theorem OpL.lenMap {X : Operand} {t k e : TypeId} {id : Nat} {l : List (κ × ν)} (hx : ev T X = .omap id) (hH : H id = .map (ents fk fv l)) (hk : (E.td t).kind = .map k e) :
    OpL E ⟨d, .call { callee := .builtin .len, args := #[X], argTypes := #[t] }, ty, pos, af, g⟩ T H [id] [] (.int .i64 (l.length : Int)) :=
  OpL.quiet [id] (by simp) fun m a w r0 w0 mu H' hT hM hr => by
    have h1 := hT X (by simp [Op.operands, Call.operands])
    rw [hx] at h1
    have hob := hM.obj id
    rw [hr id (by simp), hH] at hob
    obtain ⟨L, en, h2, h3, h4, h5⟩ := hob.mapAt h1
    have hl : en.size = l.length := by have := h5.length; simpa [ents] using this
    refine ⟨.int .i64 (l.length : Int), ?_, rfl⟩
    simp [execOp, resolve, h3, invoke, builtin, Builtin.len_, goInt, run_underlying (Env.und_map hk), run_getMap h4, hl]

theorem OpL.mapUpdate {t k e : TypeId} {M K X : Operand} {id : Nat} {l : List (κ × ν)} {a : κ} {x : ν} (hk : (E.td t).kind = .map k e) (hm : ev T M = .omap id) (hH : H id = .map (ents fk fv l)) (hK : ev T K = fk a) (hX : ev T X = fv x) (hkt : KeyT E.P k fk) :
    OpL E ⟨d, .mapUpdate t M K X, ty, pos, af, g⟩ T H [id] [(id, .map (ents fk fv (mput l a x)))] .junk := by
  refine ⟨fun r n m ac w r0 w0 mu H' next Q hT hM hr hn => ?_⟩
  have h1 := hT M (by simp [Op.operands]); rw [hm] at h1
  have h2 := hT K (by simp [Op.operands]); rw [hK] at h2
  have h3 := hT X (by simp [Op.operands]); rw [hX] at h3
  have hH' : H' id = .map (ents fk fv l) := by rw [hr id (by simp)]; exact hH
  have hob := hM.obj id
  rw [hH'] at hob
  obtain ⟨L, en, h4, h5, h6, h7⟩ := hob.mapAt h1
  have hlt := block_lt h6
  have hfind := hkt.find m w a _ 0 fv l en.toList h2 h7
  have hsz : en.size = l.length := by have := h7.length; simpa [ents] using this
  cases hf : findM a l en.toList 0 with
  | none =>
    rw [hf] at hfind
    obtain ⟨_, _, hp⟩ := findM_none h7 hf
    have hM' := hM.setObj (id := id) (L := L) (by rw [hH']; rfl) h4 (.map (en.push { key := ac.eval K, val := ac.eval X, born := en.size }) (en.size + 1)) (.map (ents fk fv (mput l a x)))
      ⟨L, h4, en.push { key := ac.eval K, val := ac.eval X, born := en.size }, by rw [setBlock_same hlt]; simp, by
        rw [hp x]
        simp only [ents, List.map_append, List.map_cons, List.map_nil, Array.toList_push]
        exact REnt_append h7 ⟨{ key := ac.eval K, val := ac.eval X, born := en.size }, [], rfl, by simp [hsz, ents], h2, h3, rfl⟩⟩
    refine wpIn_skip' (by simp) ?_ (hn m undef _ (Mem.le.refl m) hM' trivial)
    simp [execOp, Instr.mapUpdate, run_underlying (Env.und_map hk), h5, run_getMap h6, hkt.check m w false a _ h2, hfind, run_setMap h6]
  | some q =>
    obtain ⟨j, u⟩ := q
    rw [hf] at hfind
    obtain ⟨i, v, e0, h8, h9, h10, h11, h12, h13, h14, h15, h16, h17, hp⟩ := findM_some h7 hf
    obtain rfl : j = i := by omega
    have he : en[j]? = some e0 := by simpa using h13
    have hen : (en.modify j fun e => { e with key := ac.eval K, val := ac.eval X }).toList = en.toList.set j { e0 with key := ac.eval K, val := ac.eval X } := by
      apply List.ext_getElem?
      intro i
      rw [Array.getElem?_toList, Array.getElem?_modify, List.getElem?_set, Array.getElem?_toList]
      have hjl : j < en.toList.length := (List.getElem?_eq_some_iff.1 h13).1
      by_cases hij : j = i
      · subst hij; simp only [if_true, he, Option.map_some]; rw [if_pos hjl]
      · simp [hij]
    have hM' := hM.setObj (id := id) (L := L) (by rw [hH']; rfl) h4 (.map (en.modify j fun e => { e with key := ac.eval K, val := ac.eval X }) en.size) (.map (ents fk fv (mput l a x)))
      ⟨L, h4, en.modify j fun e => { e with key := ac.eval K, val := ac.eval X }, by rw [setBlock_same hlt]; simp, by
        rw [hp x, hen]
        simp only [ents, List.map_set]
        exact REnt_set h7 h15 h2 h3⟩
    refine wpIn_skip' (by simp) ?_ (hn m undef _ (Mem.le.refl m) hM' trivial)
    have hsame := hkt.same m a _ _ h16 h2
    simp [execOp, Instr.mapUpdate, run_underlying (Env.und_map hk), h5, run_getMap h6, hkt.check m w false a _ h2, hfind, run_setMap h6, he, Instr.keyThatStays, hsame]

theorem OpL.mapEntry {t k e : TypeId} {M K : Operand} {id : Nat} {l : List (κ × ν)} {a : κ} {z : ν} {td : TD} (hk : (E.td t).kind = .map k e) (hm : ev T M = .omap id) (hH : H id = .map (ents fk fv l)) (hK : ev T K = fk a) (hkt : KeyT E.P k fk) (ht : E.td e = td) (hke : td.kind.known = true) (hz : td.zero = fv z) :
    OpL E ⟨d, .mapEntry t M K, ty, pos, af, g⟩ T H [id] [(id, .map (ents fk fv (mput l a ((mget l a).getD z))))] (.tuple [fv ((mget l a).getD z), .int .i64 (mix l a : Nat)]) := by
  subst ht
  refine ⟨fun r n m ac w r0 w0 mu H' next Q hT hM hr hn => ?_⟩
  have h1 := hT M (by simp [Op.operands]); rw [hm] at h1
  have h2 := hT K (by simp [Op.operands]); rw [hK] at h2
  have hH' : H' id = .map (ents fk fv l) := by rw [hr id (by simp)]; exact hH
  have hob := hM.obj id
  rw [hH'] at hob
  obtain ⟨L, en, h4, h5, h6, h7⟩ := hob.mapAt h1
  have hlt := block_lt h6
  have hfind := hkt.find m w a _ 0 fv l en.toList h2 h7
  have hsz : en.size = l.length := by have := h7.length; simpa [ents] using this
  cases hf : findM a l en.toList 0 with
  | none =>
    rw [hf] at hfind
    obtain ⟨hg, hx, hp⟩ := findM_none h7 hf
    obtain ⟨_, i, zv, _, hi, _, _, _, hzz, hz0, _⟩ := Env.facts (E := E) (t := e) (TK.known_ne hke)
    have hrz : R m (fv z) zv := by rw [← hz]; exact R_zero m _ _ hz0
    have hM' := hM.setObj (id := id) (L := L) (by rw [hH']; rfl) h4 (.map (en.push { key := ac.eval K, val := zv, born := en.size }) (en.size + 1)) (.map (ents fk fv (mput l a z)))
      ⟨L, h4, en.push { key := ac.eval K, val := zv, born := en.size }, by rw [setBlock_same hlt]; simp, by
        rw [hp z]
        simp only [ents, List.map_append, List.map_cons, List.map_nil, Array.toList_push]
        exact REnt_append h7 ⟨{ key := ac.eval K, val := zv, born := en.size }, [], rfl, by simp [hsz, ents], h2, hrz, rfl⟩⟩
    rw [hg] at hn
    refine wpIn_value (by simp) (u := .tuple #[zv, goInt en.size]) (w' := setBlock w L.blk _) ?_ (hn m _ _ (Mem.le.refl m) hM' ⟨[zv, goInt en.size], rfl, _, _, rfl, hrz, _, _, rfl, by rw [hx, ← hsz]; rfl, rfl⟩)
    have hzv : (zeroValue e).run E.P w = .ok zv w := by simp [zeroValue, typeInfo, hi, hzz]
    simp [execOp, Instr.mapEntry, run_underlying (Env.und_map hk), h5, run_getMap h6, hkt.check m w false a _ h2, hfind, run_setMap h6, hzv]
  | some q =>
    obtain ⟨j, u⟩ := q
    rw [hf] at hfind
    obtain ⟨i, v, e0, h8, h9, h10, h11, h12, h13, h14, h15, h16, h17, hp⟩ := findM_some h7 hf
    obtain rfl : j = i := by omega
    have he : en[j]? = some e0 := by simpa using h13
    have hen : (en.modify j fun e => { e with key := ac.eval K }).toList = en.toList.set j { e0 with key := ac.eval K } := by
      apply List.ext_getElem?
      intro i
      rw [Array.getElem?_toList, Array.getElem?_modify, List.getElem?_set, Array.getElem?_toList]
      have hjl : j < en.toList.length := (List.getElem?_eq_some_iff.1 h13).1
      by_cases hij : j = i
      · subst hij; simp only [if_true, he, Option.map_some]; rw [if_pos hjl]
      · simp [hij]
    have hM' := hM.setObj (id := id) (L := L) (by rw [hH']; rfl) h4 (.map (en.modify j fun e => { e with key := ac.eval K }) en.size) (.map (ents fk fv (mput l a v)))
      ⟨L, h4, en.modify j fun e => { e with key := ac.eval K }, by rw [setBlock_same hlt]; simp, by
        rw [hp v, hen]
        simp only [ents, List.map_set]
        exact REnt_set h7 h15 h2 h17⟩
    rw [h10] at hn
    have hborn : e0.born = j := by omega
    refine wpIn_value (by simp) (u := .tuple #[u, goInt (j : Nat)]) (w' := setBlock w L.blk _) ?_ (hn m _ _ (Mem.le.refl m) hM' ⟨[u, goInt (j : Nat)], rfl, _, _, rfl, by rw [← h14]; exact h17, _, _, rfl, by rw [h11]; rfl, rfl⟩)
    have hsame := hkt.same m a _ _ h16 h2
    simp [execOp, Instr.mapEntry, run_underlying (Env.und_map hk), h5, run_getMap h6, hkt.check m w false a _ h2, hfind, run_setMap h6, he, Instr.keyThatStays, hsame, hborn]

theorem OpL.entryStore {t : TypeId} {M S X : Operand} {id : Nat} {l : List (κ × ν)} {a : κ} {c x : ν} (hm : ev T M = .omap id) (hH : H id = .map (ents fk fv (mput l a c))) (hS : ev T S = .int .i64 (mix l a : Nat)) (hX : ev T X = fv x) :
    OpL E ⟨d, .entryStore t M S X, ty, pos, af, g⟩ T H [id] [(id, .map (ents fk fv (mput l a x)))] .junk := by
  refine ⟨fun r n m ac w r0 w0 mu H' next Q hT hM hr hn => ?_⟩
  have h1 := hT M (by simp [Op.operands]); rw [hm] at h1
  have h2 := hT S (by simp [Op.operands]); rw [hS] at h2
  have h2 : ac.eval S = .int .i64 (mix l a : Nat) := h2
  have h3 := hT X (by simp [Op.operands]); rw [hX] at h3
  have hH' : H' id = .map (ents fk fv (mput l a c)) := by rw [hr id (by simp)]; exact hH
  have hob := hM.obj id
  rw [hH'] at hob
  obtain ⟨L, en, h4, h5, h6, h7⟩ := hob.mapAt h1
  have hlt := block_lt h6
  obtain ⟨e0, he0, hb0, hk0, hv0⟩ := REnt_get h7 (mix l a) (fk a, fv c) (by simp [ents, mput_at])
  have hjl : mix l a < en.toList.length := (List.getElem?_eq_some_iff.1 he0).1
  have hjs : mix l a < en.size := by simpa using hjl
  have he : en[mix l a]? = some e0 := by simpa using he0
  have hborn := REnt_born h7
  have hfi : en.findIdx? (fun e => ((e.born : Nat) : Int) == ((mix l a : Nat) : Int)) = some (mix l a) := by
    rw [Array.findIdx?_eq_some_iff_getElem]
    refine ⟨hjs, ?_, fun j hj => ?_⟩
    · have : en[mix l a] = e0 := by rw [Array.getElem?_eq_getElem hjs] at he; exact Option.some.inj he
      rw [this, hb0]; simp
    · have := hborn j en[j] (by rw [Array.getElem?_toList, Array.getElem?_eq_getElem (by omega)])
      rw [this]
      simp
      omega
  have hen : (en.modify (mix l a) fun e => { e with val := ac.eval X }).toList = en.toList.set (mix l a) { e0 with val := ac.eval X } := by
    apply List.ext_getElem?
    intro i
    rw [Array.getElem?_toList, Array.getElem?_modify, List.getElem?_set, Array.getElem?_toList]
    by_cases hij : mix l a = i
    · subst hij; simp only [if_true, he, Option.map_some]; rw [if_pos hjl]
    · simp [hij]
  have hM' := hM.setObj (id := id) (L := L) (by rw [hH']; rfl) h4 (.map (en.modify (mix l a) fun e => { e with val := ac.eval X }) en.size) (.map (ents fk fv (mput l a x)))
    ⟨L, h4, en.modify (mix l a) fun e => { e with val := ac.eval X }, by rw [setBlock_same hlt]; simp, by
      rw [← mput_set l a c x, hen]
      simp only [ents, List.map_set]
      exact REnt_set h7 hb0 hk0 h3⟩
  refine wpIn_skip' (by simp) ?_ (hn m undef _ (Mem.le.refl m) hM' trivial)
  simp [execOp, Instr.entryStore, h5, run_getMap h6, h2, asInt, asIntOf, run_setMap h6, hfi]

theorem OpL.lookup {t k e : TypeId} {M K : Operand} {id : Nat} {l : List (κ × ν)} {a : κ} {z : ν} {td : TD} (hk : (E.td t).kind = .map k e) (hm : ev T M = .omap id) (hH : H id = .map (ents fk fv l)) (hK : ev T K = fk a) (hkt : KeyT E.P k fk) (ht : E.td e = td) (hke : td.kind.known = true) (hz : td.zero = fv z) :
    OpL E ⟨d, .lookup t M K false, ty, pos, af, g⟩ T H [id] [] (fv ((mget l a).getD z)) :=
  OpL.quiet [id] (by simp) fun m ac w r0 w0 mu H' hT hM hr => by
    subst ht
    have h1 := hT M (by simp [Op.operands]); rw [hm] at h1
    have h2 := hT K (by simp [Op.operands]); rw [hK] at h2
    have hob := hM.obj id
    rw [hr id (by simp), hH] at hob
    obtain ⟨L, en, h4, h5, h6, h7⟩ := hob.mapAt h1
    have hfind := hkt.find m w a _ 0 fv l en.toList h2 h7
    cases hf : findM a l en.toList 0 with
    | none =>
      rw [hf] at hfind
      obtain ⟨hg, _⟩ := findM_none h7 hf
      obtain ⟨_, i, zv, _, hi, _, _, _, hzz, hz0, _⟩ := Env.facts (E := E) (t := e) (TK.known_ne hke)
      refine ⟨zv, ?_, by rw [hg]; show R m (fv z) zv; rw [← hz]; exact R_zero m _ _ hz0⟩
      have hzv : (zeroValue e).run E.P w = .ok zv w := by simp [zeroValue, typeInfo, hi, hzz]
      simp [execOp, Instr.lookup, run_underlying (Env.und_map hk), h5, run_getMap h6, hkt.check m w _ a _ h2, hfind, hzv]
    | some q =>
      obtain ⟨j, u⟩ := q
      rw [hf] at hfind
      obtain ⟨i, v, e0, h8, h9, h10, h11, h12, h13, h14, h15, h16, h17, hp⟩ := findM_some h7 hf
      refine ⟨u, ?_, by rw [h10, ← h14]; exact h17⟩
      simp [execOp, Instr.lookup, run_underlying (Env.und_map hk), h5, run_getMap h6, hkt.check m w _ a _ h2, hfind]

/-! ### Walks through a map -/
theorem OpL.range {t k e : TypeId} {X : Operand} {id : Nat} {l : List (κ × ν)} (hx : ev T X = .omap id) (hH : H id = .map (ents fk fv l)) (hk : (E.td t).kind = .map k e) (hf : H (idOf d) = .free) :
    OpL E ⟨d, .range t X, ty, pos, af, g⟩ T H [id, idOf d] [(idOf d, .iter id l.length [])] (.ptr (idOf d) 0 0 0) := by
  refine ⟨fun r n m a w r0 w0 mu H' next Q hT hM hr hn => ?_⟩
  have h1 := hT X (by simp [Op.operands]); rw [hx] at h1
  have hf' : H' (idOf d) = .free := by rw [hr _ (by simp)]; exact hf
  have hob := hM.obj id
  have hH' : H' id = .map (ents fk fv l) := by rw [hr id (by simp)]; exact hH
  rw [hH'] at hob
  obtain ⟨L, en, h4, h5, h6, h7⟩ := hob.mapAt h1
  have hsz : en.size = l.length := by have := h7.length; simpa [ents] using this
  have hne : id ≠ idOf d := by intro h; rw [← h, hH'] at hf'; cases hf'
  obtain ⟨hle, hM'⟩ := hM.newObj hf' (.mapIter (some L.blk) l.length #[] l.length) (.iter id l.length []) ⟨⟨w.heap.size, 0⟩, L, Mem.bind_at _ _ _, by simp [Mem.bind, hne, h4], heap_alloc_new⟩
  refine wpIn_value (by simp) (u := .pointer (some ⟨w.heap.size, 0, none⟩)) (w' := w.alloc (.mapIter (some L.blk) l.length #[] l.length)) ?_ (hn _ _ _ hle hM' ⟨_, Mem.bind_at _ _ _, by simp⟩)
  simp [execOp, Instr.range, run_underlying (Env.und_map hk), h5, run_getMap h6, newObj, Sem.run, hsz]
  try rfl

theorem HOok.iterAt {m : Mem} {w : World} {id mid n wd o : Nat} {seen : List Nat} {v : Value} (h : HOok m w id (.iter mid n seen)) (hv : R m (.ptr id wd 0 0) v) : ∃ L Lm, m.at_ id = some (some L) ∧ m.at_ mid = some (some Lm) ∧ v = .pointer (some ⟨L.blk, 0, none⟩) ∧ w.heap[L.blk]? = some (.mapIter (some Lm.blk) n seen.toArray n) := by
  obtain ⟨L, Lm, h1, h2, h3⟩ := h
  obtain ⟨L', h4, rfl⟩ := hv
  rw [h1] at h4
  obtain rfl := Option.some.inj (Option.some.inj h4)
  exact ⟨L, Lm, h1, h2, by simp, h3⟩

/-- The entry that came last. -/
theorem OpL.entry {X : Operand} {id mid n i : Nat} {seen : List Nat} {l : List (κ × ν)} {a : κ} {x : ν} (hx : ev T X = .ptr id 0 0 0) (hI : H id = .iter mid n (seen ++ [i])) (hH : H mid = .map (ents fk fv l)) (hn : n = l.length) (hi : l[i]? = some (a, x)) :
    OpL E ⟨d, .entry X, ty, pos, af, g⟩ T H [id, mid] [] (.tuple [fk a, fv x]) :=
  OpL.quiet [id, mid] (by simp) fun m ac w r0 w0 mu H' hT hM hr => by
    have h1 := hT X (by simp [Op.operands]); rw [hx] at h1
    have hob := hM.obj id
    rw [hr id (by simp), hI] at hob
    obtain ⟨L, Lm, h2, h3, h4, h5⟩ := hob.iterAt (o := 0) h1
    have hob2 := hM.obj mid
    rw [hr mid (by simp), hH] at hob2
    obtain ⟨L', en, h6, _, h7, h8⟩ := hob2.mapAt (v := .map (some Lm.blk)) ⟨Lm, h3, rfl⟩
    rw [h3] at h6
    obtain rfl := Option.some.inj (Option.some.inj h6)
    have hsz : en.size = l.length := by have := h8.length; simpa [ents] using this
    obtain ⟨e0, he0, hb0, hk0, hv0⟩ := REnt_get h8 i (fk a, fv x) (by simp [ents, hi])
    rw [Nat.zero_add] at hb0
    have hnd : (en.toList.map (·.born)).Nodup := by
      have hborn := REnt_born h8
      rw [List.nodup_iff_pairwise_ne, List.pairwise_iff_getElem]
      intro p q hp hq hpq
      have hq' : q < en.toList.length := by simpa using hq
      have hp' : p < en.toList.length := by omega
      have e1 := hborn p _ (List.getElem?_eq_getElem hp')
      have e2 := hborn q _ (List.getElem?_eq_getElem hq')
      rw [List.getElem_map, List.getElem_map, e1, e2]
      omega
    have hrun := run_entry_at (P := E.P) w L.blk Lm.blk n seen.toArray en en.size e0 (by rw [h5, hb0, hsz, hn]; simp) h7 (List.mem_of_getElem? he0) hnd
    exact ⟨_, by simp only [execOp, h4, Sem.run_bind, hrun, Result.andThen_ok]; rfl, [e0.key, e0.val], rfl, _, _, rfl, hk0, _, _, rfl, hv0, rfl⟩
end

/-- A step of a walk through a map: nothing is left, or one of the entries that have not come. -/
theorem GoOps.next {E : Env} {X : Ctx} {nt : Nat} {ops : Array Oper} {l : List Oper} {K : AS → Prop} {t : Nat → AV} {h : Nat → HO} {k : List Nat} {i : Nat} {ty : TypeId} {pos : String} {af : Array Edge} {κ ν : Type} {fk : κ → AV} {fv : ν → AV} {es : List (κ × ν)} {Y : Operand} {id mid n : Nat} {seen : List Nat}
    (hx : ev t Y = .ptr id 0 0 0) (hI : h id = .iter mid n seen) (hH : h mid = .map (ents fk fv es)) (hn : n = es.length)
    (h0 : (∀ j, j < es.length → j ∈ seen) → GoOps E X nt ops l K ⟨upd t i (.tuple [.bool false]), h, k⟩)
    (h1 : ∀ j p, es[j]? = some p → j ∉ seen → GoOps E X nt ops l K ⟨upd t i (.tuple [.bool true, fk p.1, fv p.2]), upd h id (.iter mid n (seen ++ [j])), k⟩) :
    GoOps E X nt ops (⟨some i, .next Y false, ty, pos, af, none⟩ :: l) K ⟨t, h, k⟩ := by
  refine ⟨fun hl Q' a w hQ hD => ?_⟩
  obtain ⟨hd, hl⟩ := dstsLt_cons hl
  obtain ⟨m, hD⟩ := hD
  have hM : MemOK X.m0.ro X.w0 X.mu m h w := hD.mem
  have hv : R m (ev t Y) (a.eval Y) := hD.evals Y
  rw [hx] at hv
  have hob := hM.obj id
  rw [hI] at hob
  obtain ⟨L, Lm, h2, h3, h4, h5⟩ := hob.iterAt (o := 0) hv
  have hob2 := hM.obj mid
  rw [hH] at hob2
  obtain ⟨L', en, h6, _, h7, h8⟩ := hob2.mapAt (v := .map (some Lm.blk)) ⟨Lm, h3, rfl⟩
  rw [h3] at h6
  obtain rfl := Option.some.inj (Option.some.inj h6)
  have hsz : en.size = es.length := by have := h8.length; simpa [ents] using this
  have hborn := REnt_born h8
  have hold : ∀ x ∈ en.toList, x.born < n := by
    intro x hx
    obtain ⟨j, hj, rfl⟩ := List.mem_iff_getElem.1 hx
    have := hborn j _ (List.getElem?_eq_getElem hj)
    rw [this, hn, ← hsz]
    simpa using hj
  refine wpListIn_plain rfl fun K' hK' => ?_
  rcases run_next_at (P := E.P) w ty L.blk Lm.blk n n seen.toArray en en.size h5 h7 hold (Nat.le_refl _) with ⟨hl0, hrun⟩ | ⟨e, he, w1, hw1, hrun⟩
  · have hall : ∀ j, j < es.length → j ∈ seen := by
      intro j hj
      have h9 : leftOf en seen.toArray = #[] := Array.eq_empty_of_size_eq_zero hl0
      unfold leftOf at h9
      rw [Array.filter_eq_empty_iff] at h9
      have hj' : j < en.toList.length := by simpa [hsz] using hj
      have h10 := h9 en.toList[j] (by simp)
      rw [hborn j _ (List.getElem?_eq_getElem hj')] at h10
      simpa using h10
    refine wpIn_value (by simp) (u := .tuple #[.bool false]) (w' := w) ?_ (hK' _ _ ((h0 hall).out hl Q' _ w hQ ⟨m, hD.put hd (Mem.le.refl m) hM ⟨[.bool false], rfl, _, _, rfl, rfl, rfl⟩⟩))
    simp only [execOp, h4, Sem.run_bind, hrun, Result.andThen_ok]
    rfl
  · unfold leftOf at he
    simp at he
    obtain ⟨he1, he2⟩ := he
    obtain ⟨j, hj, hje⟩ := List.mem_iff_getElem.1 (Array.mem_toList_iff.2 he1)
    have hb := hborn j e (by rw [List.getElem?_eq_getElem hj, hje])
    rw [Nat.zero_add] at hb
    have hjl : j < es.length := by rw [← hsz]; simpa using hj
    obtain ⟨e', he', hb', hk', hv'⟩ := REnt_get h8 j (fk es[j].1, fv es[j].2) (by simp [ents, hjl])
    have : e' = e := by rw [List.getElem?_eq_getElem hj, hje] at he'; exact (Option.some.inj he').symm
    subst this
    have hM1 : MemOK X.m0.ro X.w0 X.mu m h w1 := by
      rcases hw1 with rfl | rfl
      · exact hM
      · exact hM.drew
    have hheap : w1.heap = w.heap := by rcases hw1 with rfl | rfl <;> rfl
    have hM2 := hM1.setObj (id := id) (L := L) (by rw [hI]; rfl) h2 (.mapIter (some Lm.blk) n (seen.toArray.push e'.born) en.size) (.iter mid n (seen ++ [j])) ⟨L, Lm, h2, h3, by
      rw [setBlock_same (by rw [hheap]; exact block_lt h5), hb, hsz, hn]
      simp⟩
    refine wpIn_value (by simp) (u := .tuple #[.bool true, e'.key, e'.val]) (w' := setBlock w1 L.blk (.mapIter (some Lm.blk) n (seen.toArray.push e'.born) en.size)) ?_
      (hK' _ _ ((h1 j es[j] (List.getElem?_eq_getElem hjl) (by rw [hb] at he2; simpa using he2)).out hl Q' _ _ hQ ⟨m, hD.put hd (Mem.le.refl m) hM2 ⟨[.bool true, e'.key, e'.val], rfl, _, _, rfl, rfl, _, _, rfl, hk', _, _, rfl, hv', rfl⟩⟩))
    simp only [execOp, h4, Sem.run_bind, hrun, Result.andThen_ok]
    rfl

/-! ### Keys -/
theorem findNow_int {q : IntKind} {m : Mem} {a : Int} {ν : Type} {fv : ν → AV} : ∀ {l : List (Int × ν)} {es : List MapEntry} {k i : Nat}, REnt m k (ents (.int .i64) fv l) es → Instr.findNow (.int q) (.int .i64 a) es i = some (findM a l es i)
  | [], es, k, i, h => by rw [show es = [] from h]; rfl
  | p :: l, es, k, i, hh => by
    obtain ⟨e, es', rfl, h2, h3, h4, h5⟩ := hh
    have h3 : e.key = .int .i64 p.1 := h3
    simp only [Instr.findNow, h3, Instr.sameNow, if_true, findM]
    by_cases hap : a = p.1
    · simp [hap]
    · have : (a == p.1) = false := by simpa using hap
      simp only [this, if_neg hap]
      exact findNow_int h5

theorem KeyT.ofInt {P : Program} {t : TypeId} (h : P.underlying t = some (.int .i64)) : KeyT P t (AV.int .i64) where
  noId _ := rfl
  check m w em a u hu := by
    have hu : u = .int .i64 a := hu
    subst hu
    exact Go.MapKept.run_checkKey (d := .int .i64) h (by simp [Go.MapKept.IsKey]) em 9999
  find m w a u k fv l es hu he := by
    have hu : u = .int .i64 a := hu
    subst hu
    exact Go.MapKept.run_findKey h (findNow_int he)
  same m a u v hu hv := by
    have hu : u = .int .i64 a := hu
    have hv : v = .int .i64 a := hv
    subst hu hv
    simp [Instr.sameBits]

def intsAV (cs : List AV) : Prop := ∀ x ∈ cs, ∃ n, x = .int .i64 n
theorem RS_ints {m : Mem} : ∀ {cs : List AV} {us vs : List Value}, intsAV cs → RS m cs us → RS m cs vs → us = vs ∧ ∀ u ∈ us, ∃ n, u = .int .i64 n
  | [], us, vs, _, h, h' => by rw [show us = [] from h, show vs = [] from h']; simp
  | x :: cs, us, vs, hi, hh, hh' => by
    obtain ⟨u, us', rfl, h1, h2⟩ := hh
    obtain ⟨v, vs', rfl, h3, h4⟩ := hh'
    obtain ⟨n, rfl⟩ := hi x (by simp)
    have h1 : u = .int .i64 n := h1
    have h3 : v = .int .i64 n := h3
    subst h1 h3
    obtain ⟨h5, h6⟩ := RS_ints (fun y hy => hi y (by simp [hy])) h2 h4
    subst h5
    exact ⟨rfl, fun w hw => by
      rcases List.mem_cons.1 hw with rfl | hw
      · exact ⟨n, rfl⟩
      · exact h6 w hw⟩
theorem sameBits_ints (n : Nat) : ∀ (us : List Value), (∀ u ∈ us, ∃ n, u = .int .i64 n) → (us.zip us).all (fun p => Instr.sameBits (n + 1) p.1 p.2) = true
  | [], _ => rfl
  | u :: us, h => by
    obtain ⟨k, rfl⟩ := h u (by simp)
    simp only [List.zip_cons_cons, List.all_cons, Bool.and_eq_true]
    exact ⟨by simp [Instr.sameBits], sameBits_ints n us fun v hv => h v (by simp [hv])⟩

theorem run_checkInt {P : Program} {t : TypeId} {q : IntKind} (hu : P.underlying t = some (.int q)) (em : Bool) (n : Nat) (a : Int) (w : World) : (Instr.checkKey em (n + 1) t (.int .i64 a)).run P w = .ok () w := by simp [Instr.checkKey, run_underlying hu]

theorem KeyT.ofStruct {E : Env} {t : TypeId} {κ : Type} [DecidableEq κ] {fk : κ → AV} {fs : List (Nat × Nat)} (cs : κ → List AV) (hq : eqT E.P t = true) (hk : (E.td t).kind = .struct fs) (hf : ∀ a, fk a = .agg (cs a)) (hi : ∀ a, intsAV (cs a))
    (hp : ∀ a b, ∃ ps, intPairs (cs a) (cs b) fs = some ps ∧ (AllEq ps ↔ a = b)) : KeyT E.P t fk where
  noId a := by
    rw [hf a]
    have : ∀ l : List AV, intsAV l → AV.noIds l = true := by
      intro l
      induction l with
      | nil => exact fun _ => rfl
      | cons x l ih =>
        intro h
        obtain ⟨n, rfl⟩ := h x (by simp)
        simp only [AV.noIds, AV.noId, Bool.true_and]
        exact ih fun y hy => h y (by simp [hy])
    exact this _ (hi a)
  check m w em a u hu := by
    rw [hf a] at hu
    obtain ⟨vs, rfl, hvs⟩ := hu
    obtain ⟨fields, hund, hfs⟩ := Env.und_struct hk
    obtain ⟨ps, hps, hiff⟩ := hp a a
    clear hiff
    rw [← hfs] at hps
    have hq' := hq
    unfold eqT at hq'
    rw [hund] at hq'
    simp only [Bool.and_eq_true] at hq'
    rw [show (10000 : Nat) = (9998 + 1) + 1 from rfl, Instr.checkKey]
    simp only [Sem.run_bind, run_underlying hund, Result.andThen_ok]
    rw [← Array.forIn_toList]
    have hall := hq'.1.1
    clear hq' hfs hund
    generalize hN : (9998 : Nat) = N
    clear hN
    generalize fields.toList = L at hall hps
    revert hall hps
    revert ps
    induction L with
    | nil => intros; simp
    | cons f L ih =>
      intro ps hall hps
      simp only [List.all_cons, Bool.and_eq_true, bne_iff_ne, ne_eq] at hall
      obtain ⟨⟨hn, hk⟩, hrest⟩ := hall
      simp only [List.map_cons, intPairs] at hps
      split at hps
      · rename_i a' b' ha hb
        split at hps
        · rename_i ps' hps'
          cases hu : E.P.underlying f.type with
          | none => rw [hu] at hk; simp at hk
          | some k =>
            rw [hu] at hk
            cases k <;> simp at hk
            rename_i q
            have hp : E.P.plainKey f.type = true := by unfold Program.plainKey; rw [hu]
            have p1 := run_part_plain w hp (xs := vs.toArray) (off := f.offset) (by have := RS_at hvs ha; simpa using this)
            have p2 := run_checkInt hu em N a' w
            simp only [List.forIn_cons, Sem.run_bind, hn, ne_eq, not_false_eq_true, if_true, Result.andThen_ok, p1, p2, Sem.run_pure]
            exact ih ps' (by simpa using hrest) hps'
        · simp at hps
      · simp at hps
  find {ν} m w a u k fv l es hu he := by
    obtain ⟨fields, hund, hfs⟩ := Env.und_struct hk
    rw [run_findKey_eq w (by rw [hund]) u es]
    rw [hf a] at hu
    obtain ⟨vs, rfl, hvs⟩ := hu
    have key : ∀ (l : List (κ × ν)) (es : List MapEntry) (k i : Nat), REnt m k (ents fk fv l) es → (Instr.findAsking t (.agg vs.toArray) es i).run E.P w = .ok (findM a l es i) w := by
      intro l
      induction l with
      | nil => intro es k i h; rw [show es = [] from h]; rfl
      | cons p l ih =>
        intro es k i h
        obtain ⟨e, es', rfl, h2, h3, h4, h5⟩ := h
        have h3 : R m (fk p.1) e.key := h3
        rw [hf p.1] at h3
        obtain ⟨us, h6, hus⟩ := h3
        obtain ⟨ps, hps, hiff⟩ := hp a p.1
        obtain ⟨h7, _⟩ := run_eqs (E := E) hq hk hps hvs hus w
        simp only [Instr.findAsking, Sem.run_bind, h6, h7, Result.andThen_ok, findM]
        by_cases hap : a = p.1
        · rw [if_pos hap, decide_eq_true (hiff.2 hap)]; rfl
        · rw [if_neg hap, decide_eq_false (fun h => hap (hiff.1 h))]
          exact ih es' (k + 1) (i + 1) h5
    exact key l es k 0 he
  same m a u v hu hv := by
    rw [hf a] at hu hv
    obtain ⟨us, rfl, hus⟩ := hu
    obtain ⟨vs, rfl, hvs⟩ := hv
    obtain ⟨rfl, h⟩ := RS_ints (hi a) hus hvs
    rw [show (10000 : Nat) = 9999 + 1 from rfl, Instr.sameBits]
    have := sameBits_ints 9998 us h
    simp only [beq_self_eq_true, Bool.true_and]
    simpa using this
end Go.Proofs.YtfbjoamdkieamaaGreat.AM
end

section
set_option linter.unusedSimpArgs false
set_option linter.unusedVariables false
set_option linter.unusedSectionVars false
namespace Go.Proofs.YtfbjoamdkieamaaGreat.AM
open Go
open Go.ChangeMaps (setBlock)

/-- A call of the yield of the loop lid: the round is carried out; true comes back. -/
structure YSpec (E : Env) (lid : Nat) (args : List AV) (H : Nat → HO) (Q : (Nat → HO) → Prop) : Prop where
  run : ∀ (n : Nat) (m : Mem) (w : World) (vs : List Value) (L : Loc), MemOK m.ro w (blocksOf m H) m H w → RS m args vs → m.at_ lid = some (some L) →
    YieldAt Fence.wide n E.P L.blk vs.toArray w fun e w' => ∃ H' m', e = .returned (.bool true) ∧ Q H' ∧ m.le m' ∧ MemOK m.ro w (blocksOf m H) m' H' w'

section
variable {E : Env} {T : Nat → AV} {H : Nat → HO} {d : Option Tmp} {ty : TypeId} {pos : String} {af : Array Edge} {g : Option (Nat × Bool)}
/-- A call of yield. -/
theorem OpL.callY {F : Operand} {As : Array Operand} {ats : Array TypeId} {lid : Nat} {aL : List Operand} {args : List AV} {ins outs post : List (Nat × HO)} (ρ : Nat → Nat) (hAs : As = aL.toArray) (hF : ev T F = .yld (ρ lid)) (hlid : (keys ins).contains lid = true)
    (hS : YSpec E lid args (ofL .free ins) (fun H' => ∀ p ∈ outs, H' p.1 = p.2)) (hargs : aL.map (ev T) = AV.rens ρ args) (hai : AV.idsIns (keys ins) args = true) (hin : InOK H ρ (keys ins) ins)
    (hinj : inj ρ (keys outs) = true) (hio : (keys ins).all (fun i => (keys outs).contains i) = true) (hpost : PostOK H ρ (keys ins) (keys outs) outs post) :
    OpL E ⟨d, .call { callee := .value F, args := As, argTypes := ats }, ty, pos, af, g⟩ T H (keys post) post (.bool true) := by
  subst hAs
  have hinj' : ∀ i j, i ∈ keys outs → j ∈ keys outs → ρ i = ρ j → i = j := fun i j hi hj h => inj_iff hinj hi hj h
  have hio' : ∀ i, i ∈ keys ins → i ∈ keys outs := fun i hi => by simpa using List.all_eq_true.1 hio i hi
  obtain ⟨hkeys, hget⟩ := PostOK.get (G := H) _ _ hpost hinj'
  refine ⟨fun r n m a w r0 w0 mu H' next Q hT hM hr hK => ?_⟩
  have hsame : ∀ i, i ∈ keys outs → H' (ρ i) = H (ρ i) := fun i hi => hr _ (by rw [hkeys]; exact List.mem_map.2 ⟨i, hi, rfl⟩)
  have hinH : ∀ (l : List (Nat × HO)), (∀ p ∈ l, p.1 ∈ keys ins) → InOK H ρ (keys ins) l → InOK H' ρ (keys ins) l := by
    intro l
    induction l with
    | nil => exact fun _ _ => trivial
    | cons p l ih =>
      obtain ⟨i, o⟩ := p
      intro hk h
      cases o with
      | arr t wd l1 =>
        refine ⟨?_, ih (fun p hp => hk p (by simp [hp])) h.2⟩
        rw [hsame i (hio' i (hk (i, HO.arr t wd l1) (by simp)))]; exact h.1
      | map es =>
        refine ⟨?_, ih (fun p hp => hk p (by simp [hp])) h.2⟩
        rw [hsame i (hio' i (hk (i, HO.map es) (by simp)))]; exact h.1
      | loop busy nt ps asg body tm =>
        refine ⟨?_, ih (fun p hp => hk p (by simp [hp])) h.2⟩
        rw [hsame i (hio' i (hk (i, HO.loop busy nt ps asg body tm) (by simp)))]; exact h.1
      | _ => exact h.elim
  have hin' := hinH ins (fun p hp => List.mem_map.2 ⟨p, hp, rfl⟩) hin
  have hpostH : ∀ (l l' : List (Nat × HO)), (∀ p ∈ l, p.1 ∈ keys outs) → PostOK H ρ (keys ins) (keys outs) l l' → PostOK H' ρ (keys ins) (keys outs) l l' := by
    intro l
    induction l with
    | nil => intro l' _ h; cases l' <;> exact h
    | cons p l ih =>
      obtain ⟨i, o⟩ := p
      intro l' hk h
      cases l' with
      | nil => cases o <;> exact h.elim
      | cons q l' =>
        obtain ⟨j, o'⟩ := q
        cases o with
        | arr t wd l1 =>
          obtain ⟨⟨h1, h2, h3⟩, h4⟩ := h
          refine ⟨⟨h1, h2, ?_⟩, ih l' (fun p hp => hk p (by simp [hp])) h4⟩
          rw [h1] at h3 ⊢
          rw [hsame i (hk (i, HO.arr t wd l1) (by simp))]; exact h3
        | map es =>
          obtain ⟨⟨h1, h2, h3⟩, h4⟩ := h
          refine ⟨⟨h1, h2, ?_⟩, ih l' (fun p hp => hk p (by simp [hp])) h4⟩
          rw [h1] at h3 ⊢
          rw [hsame i (hk (i, HO.map es) (by simp))]; exact h3
        | loop busy nt ps asg body tm =>
          obtain ⟨⟨h1, h2, h3⟩, h4⟩ := h
          refine ⟨⟨h1, h2, ?_⟩, ih l' (fun p hp => hk p (by simp [hp])) h4⟩
          rw [h1] at h3 ⊢
          rw [hsame i (hk (i, HO.loop busy nt ps asg body tm) (by simp))]; exact h3
        | dead => exact ⟨h.1, ih l' (fun p hp => hk p (by simp [hp])) h.2⟩
        | _ => exact h.elim
  have hpost' := hpostH outs post (fun p hp => List.mem_map.2 ⟨p, hp, rfl⟩) hpost
  have h1 := hT F (by simp [Op.operands, Call.operands])
  rw [hF] at h1
  obtain ⟨L, h1, h2⟩ := h1
  have h5 : RS m (aL.map (ev T)) (aL.map a.eval) := RS_map_ev aL fun X hX => hT X (by simp [Op.operands, Call.operands, hX])
  rw [hargs] at h5
  have hMC := hM.callIn hin' (fun i j hi hj h => hinj' i j (hio' i hi) (hio' j hj) h)
  have h50 := RS_ren (m := m) (m' := ⟨m.ro, fun i => if (keys ins).contains i = true then m.at_ (ρ i) else none⟩) (ρ := ρ) (S := keys ins) (fun _ _ h => h) (fun i x hi h => by simp only [hi, if_true]; exact h) _ _ hai h5
  obtain ⟨fn, tmps, assign, body, h6, h7⟩ := hS.run (n - 1) _ w _ L hMC h50 (by simp only [hlid, if_true]; exact h1)
  have hrun : (execOp a.eval ⟨d, .call { callee := .value F, args := aL.toArray, argTypes := ats }, ty, pos, af, g⟩).run E.P w = .ok (.round L.blk fn tmps assign body) w := by
    simp [execOp, resolve, h2, Deferred.ofValue, invoke, h6]
  refine ⟨fun _ _ => trivial, ?_⟩
  rw [Oper.semAt_eq _ _ _ (by simp), hrun]
  refine ⟨fun h => by simp [Wf] at h, ?_⟩
  have h8 : ∀ R, RoundIn Fence.wide (n - 1) E.P L.blk fn tmps assign body w R → RoundIn (Wf r) (n - 1) E.P L.blk fn tmps assign body w R := by
    cases r with
    | none => exact fun _ h => h
    | some l => exact fun _ h => h
  refine (h8 _ h7).mono fun e w' ⟨Hc, mc, he, hq2, hle, hC⟩ => ?_
  subst he
  obtain ⟨h9, h10, h11⟩ := hM.callOut hin' hinj' hio' hpost' hle hC hq2
  exact hK _ (.bool true) w' h9 h11 rfl

end

/-! ### Rounds -/
def zipT : List Tmp → List AV → (Nat → AV) → Nat → AV
  | t :: ts, x :: xs, f => zipT ts xs (upd f t x)
  | _, _, f => f

theorem zipT_R {m : Mem} : ∀ {ts : List Tmp} {xs : List AV} {vs : List Value} {f : Nat → AV} {tmps : Array Value}, RS m xs vs → (∀ t ∈ ts, t < tmps.size) → (∀ i, R m (f i) (tmps.getD i undef)) →
    ((ts.zip vs).foldl (fun tmps p => tmps.setIfInBounds p.1 p.2) tmps).size = tmps.size ∧ ∀ i, R m (zipT ts xs f i) (((ts.zip vs).foldl (fun tmps p => tmps.setIfInBounds p.1 p.2) tmps).getD i undef)
  | [], xs, vs, f, tmps, _, _, hf => by simpa [zipT] using hf
  | t :: ts, [], vs, f, tmps, h, _, hf => by rw [show vs = [] from h]; simpa [zipT] using hf
  | t :: ts, x :: xs, vs, f, tmps, hh, hlt, hf => by
    obtain ⟨v, vs', rfl, h1, h2⟩ := hh
    have ih := zipT_R (ts := ts) (f := upd f t x) (tmps := tmps.setIfInBounds t v) h2 (fun t' ht' => by simpa using hlt t' (by simp [ht'])) fun i => by
      rw [getD_setIfInBounds _ _ _ _ (hlt t (by simp))]
      by_cases hi : i = t
      · subst hi; rw [upd_same, if_pos rfl]; exact h1
      · rw [upd_ne _ _ _ _ hi, if_neg hi]; exact hf i
    simp only [List.zip_cons_cons, List.foldl_cons, zipT]
    exact ⟨by rw [ih.1]; simp, ih.2⟩

/-- Behind the assignments of a round: the round begins. -/
def BeginA (E : Env) (X : Ctx) (nt : Nat) (lid : Nat) (body : Code) (K : Exit → AS → Prop) (s : AS) : Prop :=
  ∃ ps asg bd tm, s.h lid = .loop false nt ps asg bd tm ∧ GoC E X nt body K ⟨s.t, upd s.h lid (.loop true nt ps asg bd tm), s.k⟩
theorem BeginA.mk {E : Env} {X : Ctx} {nt lid : Nat} {body : Code} {K : Exit → AS → Prop} {t : Nat → AV} {h : Nat → HO} {k : List Nat} {ps : Array Tmp} {asg bd : Code} {tm : List (Nat × AV)} (hl : h lid = .loop false nt ps asg bd tm)
    (hb : GoC E X nt body K ⟨t, upd h lid (.loop true nt ps asg bd tm), k⟩) : BeginA E X nt lid body K ⟨t, h, k⟩ := ⟨ps, asg, bd, tm, hl, hb⟩

def RoundA (nt lid : Nat) (Q : (Nat → HO) → Prop) : Exit → AS → Prop
  | .normal, s => ∃ s' : AS, s.sub s' ∧ ∃ ps asg bd tm, s'.h lid = .loop true nt ps asg bd tm ∧ Q (upd s'.h lid (.loop false nt ps asg bd tm))
  | _, _ => False
theorem RoundA.mk {nt lid : Nat} {Q : (Nat → HO) → Prop} {s s' : AS} {ps : Array Tmp} {asg bd : Code} {tm : List (Nat × AV)} (hs : s.sub s') (hl : s'.h lid = .loop true nt ps asg bd tm) (hq : Q (upd s'.h lid (.loop false nt ps asg bd tm))) : RoundA nt lid Q .normal s :=
  ⟨s', hs, ps, asg, bd, tm, hl, hq⟩

theorem run_setLoop {P : Program} {w : World} {r : Nat} {l : Loop} (h : w.heap[r]? = some (.loop l)) (o' : Obj) : (Go.setObj r o').run P w = .ok () (setBlock w r o') := run_setObj h (by simp)
theorem run_getLoop {P : Program} {w : World} {r : Nat} {l : Loop} (h : w.heap[r]? = some (.loop l)) : (Instr.getLoop r).run P w = .ok l w := by
  simp only [Instr.getLoop, Sem.run_bind, run_getObj h (by simp), Result.andThen_ok, Sem.run_pure]

theorem YSpec.intro {E : Env} {lid nt : Nat} {ps : List Tmp} {asg body : Code} {tm : List (Nat × AV)} {args : List AV} {H : Nat → HO} {Q : (Nat → HO) → Prop} (hH : H lid = .loop false nt ps.toArray asg body tm) (hlen : Nat.beq args.length ps.length = true) (hps : ps.all (fun t => Nat.blt t nt) = true)
    (ks : List Nat) (hks : ∀ i, H i ≠ .free → i ∈ ks) (h : ∀ X : Ctx, GoC E X nt asg (thenA (BeginA E X nt lid body (RoundA nt lid Q)) (fun _ _ => False)) ⟨zipT ps args (ofL .junk tm), H, ks⟩) : YSpec E lid args H Q := by
  refine ⟨fun n m w vs L hM hv hL => ?_⟩
  have hob := hM.obj lid
  rw [hH] at hob
  obtain ⟨L', r, h1, h2, h3⟩ := hob
  rw [hL] at h1
  obtain rfl := Option.some.inj (Option.some.inj h1)
  obtain ⟨c1, c2, c3, c4, c5, c6, c7⟩ := h3
  have hvl := RS_len hv
  have hlen := Nat.eq_of_beq_eq_true hlen
  have hps' : ∀ t ∈ ps, t < r.tmps.size := fun t ht => by rw [c6]; exact Nat.le_of_ble_eq_true (List.all_eq_true.1 hps t ht)
  obtain ⟨z1, z2⟩ := zipT_R (ts := ps) (f := ofL .junk tm) (tmps := r.tmps) hv hps' c7
  refine ⟨r.fn, (ps.zip vs).foldl (fun tmps p => tmps.setIfInBounds p.1 p.2) r.tmps, asg, body, ?_, ?_⟩
  · simp only [Instr.yield, Sem.run_bind, run_getLoop h2, Result.andThen_ok]
    have : ¬ (vs.toArray.size ≠ r.params.size) := by rw [c3]; simp; omega
    rw [if_neg this, c4, c5, c3]
    simp only [Sem.run_bind, Sem.run_pure, Result.andThen_ok]
    congr 2
    rw [← Array.foldl_toList]
    simp
  · let X : Ctx := { m0 := m, w0 := w, mu := blocksOf m H, df := [], r := some L.blk, n := n }
    have h0 : DenM X nt m ⟨zipT ps args (ofL .junk tm), H, ks⟩ { tmps := (ps.zip vs).foldl (fun tmps p => tmps.setIfInBounds p.1 p.2) r.tmps, defers := [] } w :=
      ⟨by rw [z1, c6], ⟨[], rfl, List.nodup_nil, fun b hb => by simp at hb⟩, Mem.le.refl m, fun i x hx => hks i fun hf => (by have := hM.obj i; rw [hf] at this; rw [show m.at_ i = none from this] at hx; cases hx), z2, hM⟩
    refine roundIn_of_wpIn trivial (wpIn_mono ((h X).out _ w ⟨m, h0⟩) fun e a1 w1 he => ?_)
    cases e with
    | normal =>
      obtain ⟨s, ⟨ps1, asg1, bd1, tm1, hl1, hg1⟩, m1, hD1⟩ := he
      have hob1 := hD1.mem.obj lid
      rw [hl1] at hob1
      obtain ⟨L1, r1, k1, k2, k3⟩ := hob1
      have hL1 : m1.at_ lid = some (some L) := hD1.le.at_ _ _ hL
      rw [hL1] at k1
      obtain rfl := Option.some.inj (Option.some.inj k1)
      have hlt := block_lt k2
      have hst : r1.state = .ready := k3.1
      have hM1 := hD1.mem.setObj (id := lid) (L := L) (by rw [hl1]; rfl) hL1 (.loop { r1 with state := .busy }) (.loop true nt ps1 asg1 bd1 tm1) ⟨L, _, hL1, setBlock_same hlt, rfl, k3.2.1, k3.2.2.1, k3.2.2.2.1, k3.2.2.2.2.1, k3.2.2.2.2.2.1, k3.2.2.2.2.2.2⟩
      refine ⟨setBlock w1 L.blk (.loop { r1 with state := .busy }), ?_, ?_⟩
      · simp only [Instr.beginRound, Sem.run_bind, run_getLoop k2, run_setLoop k2, Result.andThen_ok, hst, Sem.run_pure]
      · refine wpIn_mono (hg1.out a1 _ ⟨m1, hD1.size, hD1.defers, hD1.le, hD1.ids, hD1.tmps, hM1⟩) fun e a2 w2 he2 => ?_
        cases e with
        | normal =>
          obtain ⟨s2, ⟨s2', hsub, ps2, asg2, bd2, tm2, hl2, hq2⟩, hD2'⟩ := he2
          obtain ⟨m2, hD2⟩ := hsub.out _ _ _ _ hD2'
          have hob2 := hD2.mem.obj lid
          rw [hl2] at hob2
          obtain ⟨L2, r2, j1, j2, j3⟩ := hob2
          have hL2 : m2.at_ lid = some (some L) := hD2.le.at_ _ _ hL
          rw [hL2] at j1
          obtain rfl := Option.some.inj (Option.some.inj j1)
          have hlt2 := block_lt j2
          have hM2 := hD2.mem.setObj (id := lid) (L := L) (by rw [hl2]; rfl) hL2 (.loop { r2 with state := .ready, pending := none }) (.loop false nt ps2 asg2 bd2 tm2) ⟨L, _, hL2, setBlock_same hlt2, rfl, rfl, j3.2.2.1, j3.2.2.2.1, j3.2.2.2.2.1, j3.2.2.2.2.2.1, j3.2.2.2.2.2.2⟩
          refine ⟨.bool true, setBlock w2 L.blk (.loop { r2 with state := .ready, pending := none }), ?_, _, m2, rfl, hq2, hD2.le, hM2⟩
          simp only [Instr.endRound, Sem.run_bind, run_getLoop j2, Option.isNone_none, if_true, run_setLoop j2, Result.andThen_ok, Sem.run_pure]
        | exit i => obtain ⟨s, h, _⟩ := he2; exact h.elim
        | goto i => obtain ⟨s, h, _⟩ := he2; exact h.elim
        | ret => obtain ⟨s, h, _⟩ := he2; exact h.elim
        | panic c => exact he2.elim
        | outgrown => exact he2.elim
    | exit i => obtain ⟨s, h, _⟩ := he; exact h.elim
    | goto i => obtain ⟨s, h, _⟩ := he; exact h.elim
    | ret => obtain ⟨s, h, _⟩ := he; exact h.elim
    | panic c => exact he.elim
    | outgrown => exact he.elim

/-- A block more that is read alone. -/
theorem MemOK.newRo {r0 : Nat → Option Obj} {w0 w : World} {mu : Nat → Prop} {m : Mem} {H : Nat → HO} (hM : MemOK r0 w0 mu m H w) (o : Obj) :
    m.le ⟨fun b => if b = w.heap.size then some o else m.ro b, m.at_⟩ ∧ MemOK r0 w0 mu ⟨fun b => if b = w.heap.size then some o else m.ro b, m.at_⟩ H (w.alloc o) := by
  have hle : m.le ⟨fun b => if b = w.heap.size then some o else m.ro b, m.at_⟩ := ⟨fun b o' h => by
    have : b ≠ w.heap.size := Nat.ne_of_lt (block_lt (hM.ro b o' h))
    simp only [if_neg this, h], fun _ _ h => h⟩
  refine ⟨hle, ?_⟩
  exact {
    os := hM.os
    tape := hM.tape
    output := hM.output
    size := by rw [size_alloc]; exact Nat.le_succ_of_le hM.size
    block := fun i hi hmu => by rw [heap_alloc_old (Nat.lt_of_lt_of_le hi hM.size)]; exact hM.block i hi hmu
    ro := fun b o' h => by
      dsimp only at h
      split at h
      · rename_i hb; subst hb; cases h; exact heap_alloc_new
      · rw [heap_alloc_old (block_lt (hM.ro b o' h))]; exact hM.ro b o' h
    told := fun b o' h => by
      dsimp only at h
      split at h
      · rename_i hb; subst hb; exact .inr (.inl hM.size)
      · exact hM.told b o' h
    obj := fun id => HOok.mono hle rfl (fun hl L hL => heap_alloc_old (hM.live_blk hl hL)) (hM.obj id)
    mine := fun id L hl hL => by
      refine ⟨?_, (hM.mine id L hl hL).2⟩
      dsimp only
      rw [if_neg (Nat.ne_of_lt (hM.live_blk hl hL))]
      exact (hM.mine id L hl hL).1
    apart := hM.apart }

theorem run_endLoop {P : Program} {w : World} {l : Nat} {r : Loop} (h : w.heap[l]? = some (.loop r)) (hs : r.state = .ready) : (Instr.endLoop l).run P w = .ok r.pending (setBlock w l (.loop { r with state := .exhausted })) := by
  have : ¬ (r.state == LoopState.busy) = true := by rw [hs]; decide
  simp only [Instr.endLoop, Sem.run_bind, run_getLoop h, Result.andThen_ok, if_neg this, run_setLoop h, Sem.run_pure]

/-- 'for .. := range g': the iterator's contract, at objects that the caller hands it, the loop's record among them. -/
theorem GoC.rangeFunc {E : Env} {X : Ctx} {nt : Nat} {Q : Exit → AS → Prop} {t : Nat → AV} {h : Nat → HO} {k : List Nat} {g : Operand} {ps : Array Tmp} {asg body : Code} {f : FuncId} {first cap args : List AV} {ins : List (Nat × HO)} {ζ : Type} {φ : ζ → Prop} {outs post : ζ → List (Nat × HO)}
    (lid : Nat) (tm : List (Nat × AV)) (ρ : Nat → Nat) (hr : X.r = none) (hg : ev t g = .fn (.func f) first cap) (htm : ∀ i, Wk (t i) (ofL .junk tm i)) (hf : h lid = .free)
    (hS : Spec E f args (ofL .free ins) (fun r H' => ∃ z, φ z ∧ ∀ p ∈ outs z, H' p.1 = p.2)) (hargs : first ++ [.yld lid] ++ cap = AV.rens ρ args) (hai : AV.idsIns (keys ins) args = true)
    (hin : InOK (upd h lid (.loop false nt ps asg body tm)) ρ (keys ins) ins) (hinji : inj ρ (keys ins) = true) (hinj : ∀ z, inj ρ (keys (outs z)) = true) (hio : ∀ z, (keys ins).all (fun i => (keys (outs z)).contains i) = true)
    (hpost : ∀ z, φ z → PostOK (upd h lid (.loop false nt ps asg body tm)) ρ (keys ins) (keys (outs z)) (outs z) (post z))
    (hlp : ∀ z, ∃ tm', updL (upd h lid (.loop false nt ps asg body tm)) (post z) lid = .loop false nt ps asg body tm')
    (hK : ∀ z, φ z → Q .normal ⟨t, upd (updL (upd h lid (.loop false nt ps asg body tm)) (post z)) lid .dead, k⟩) : GoC E X nt (.rangeFunc g ps asg body) Q ⟨t, h, k⟩ := by
  refine ⟨fun a w ⟨m, hD⟩ => ?_⟩
  have hro : (Wf X.r).round = none := by rw [hr]; rfl
  have hinj' : ∀ z i j, i ∈ keys (outs z) → j ∈ keys (outs z) → ρ i = ρ j → i = j := fun z i j hi hj h => inj_iff (hinj z) hi hj h
  have hio' : ∀ z i, i ∈ keys ins → i ∈ keys (outs z) := fun z i hi => by simpa using List.all_eq_true.1 (hio z) i hi
  have hM : MemOK X.m0.ro X.w0 X.mu m h w := hD.mem
  have hv : R m (ev t g) (a.eval g) := hD.evals g
  rw [hg] at hv
  obtain ⟨fs, cs, h1, h2, h3⟩ := hv
  -- the block of the deferred calls, the record
  obtain ⟨hle1, hM1⟩ := hM.newRo (.deferred (some []))
  generalize hm1 : (⟨fun b => if b = w.heap.size then some (.deferred (some [])) else m.ro b, m.at_⟩ : Mem) = m1 at hle1 hM1
  have hmark : m1.ro w.heap.size = some (.deferred (some [])) := by rw [← hm1]; simp
  refine wpIn_rangeFunc fun fn _ => ?_
  let rec_ : Loop := { state := .ready, pending := none, fn := fn, tmps := a.tmps, params := ps, assign := asg, body := body, defers := w.heap.size }
  have hsz1 : (w.alloc (.deferred (some []))).heap.size = w.heap.size + 1 := size_alloc
  obtain ⟨hle2, hM2⟩ := hM1.newObj (id := lid) hf (.loop rec_) (.loop false nt ps asg body tm) ⟨⟨(w.alloc (.deferred (some []))).heap.size, 0⟩, rec_, Mem.bind_at _ _ _, heap_alloc_new, rfl, rfl, rfl, rfl, rfl, hD.size, fun i => by
    have hle : m.le (m1.bind lid (some ⟨(w.alloc (.deferred (some []))).heap.size, 0⟩)) := hle1.trans (Mem.le_bind (by have := hM1.obj lid; rw [hf] at this; exact this))
    exact htm i _ _ (R.mono hle _ _ (hD.tmps i))⟩
  generalize hm2 : m1.bind lid (some ⟨(w.alloc (.deferred (some []))).heap.size, 0⟩) = m2 at hle2 hM2
  have hat2 : m2.at_ lid = some (some ⟨(w.alloc (.deferred (some []))).heap.size, 0⟩) := by rw [← hm2]; exact Mem.bind_at _ _ _
  generalize hw2 : (w.alloc (.deferred (some []))).alloc (.loop rec_) = w2 at hM2
  have hle02 : m.le m2 := hle1.trans hle2
  obtain ⟨fn0, hfn, hbody, hname⟩ := hS.code
  obtain ⟨c0, hb0⟩ := Option.isSome_iff_exists.1 hbody
  have hname' : ¬ fn0.name = "runtime.NumGoroutine" := by simpa using hname
  have h5 : RS m2 (first ++ [.yld lid] ++ cap) (fs ++ [Value.func (.yield (w.heap.size + 1)) #[] #[]] ++ cs) :=
    RS_append (RS_append (RS.mono hle02 _ _ h2) ⟨_, [], rfl, ⟨_, hat2, by rw [hsz1]⟩, rfl⟩) (RS.mono hle02 _ _ h3)
  rw [hargs] at h5
  have hMC := hM2.callIn hin (fun i j hi hj h => inj_iff hinji hi hj h)
  have h50 := RS_ren (m := m2) (m' := ⟨m2.ro, fun i => if (keys ins).contains i = true then m2.at_ (ρ i) else none⟩) (ρ := ρ) (S := keys ins) (fun _ _ h => h) (fun i x hi h => by simp only [hi, if_true]; exact h) _ _ hai h5
  have h6 := hS.run (X.n - 1) _ w2 _ hMC h50
  refine ⟨w.heap.size + 1, [⟨.collected w.heap.size, #[]⟩], w2, ⟨.fn (.func f) cs.toArray, (fs ++ [Value.func (.yield (w.heap.size + 1)) #[] #[]]).toArray⟩, w2, f, (fs ++ [Value.func (.yield (w.heap.size + 1)) #[] #[]] ++ cs).toArray, w2, ?_, ?_, fun _ _ => trivial, ?_, fun h => by simp [Wf] at h, ?_⟩
  · rw [hro, ← hw2]
    simp only [Instr.enterLoop, newObj, Sem.run_bind, Sem.run, Result.andThen_ok, Sem.run_pure]
    rw [show (w.heap.push (Obj.deferred (some []))).size = w.heap.size + 1 from Array.size_push ..]
    rfl
  · have he : a.eval (.const (.func (.yield (w.heap.size + 1)) #[] #[])) = .func (.yield (w.heap.size + 1)) #[] #[] := rfl
    simp [resolve, rangeCall, h1, Deferred.ofValue, he]
  · simp [invoke, callFunc, program, Sem.run, hfn, hname', hb0]
  · have h7 : ∀ R, CallsIn Fence.wide (X.n - 1) E.P f (fs ++ [Value.func (.yield (w.heap.size + 1)) #[] #[]] ++ cs).toArray w2 R → CallsIn (Wf X.r) (X.n - 1) E.P f (fs ++ [Value.func (.yield (w.heap.size + 1)) #[] #[]] ++ cs).toArray w2 R := by
      rw [hr]; exact fun _ h => h
    refine (h7 _ h6).mono fun e w3 ⟨u, rr, Hc, mc, he, ⟨z, hz, hq⟩, hle, hC, hR⟩ => ?_
    subst he
    obtain ⟨h8, h9, h10⟩ := hM2.callOut hin (hinj' z) (hio' z) (hpost z hz) hle hC hq
    generalize hm3 : m2.callOut mc ρ (keys (outs z)) = m3 at h8 h9 h10
    obtain ⟨tm', htm'⟩ := hlp z
    have hob := h10.obj lid
    rw [htm'] at hob
    obtain ⟨L, r3, k1, k2, k3⟩ := hob
    have hL : m3.at_ lid = some (some ⟨(w.alloc (.deferred (some []))).heap.size, 0⟩) := h8.at_ _ _ hat2
    rw [hL] at k1
    obtain rfl := Option.some.inj (Option.some.inj k1)
    have hM4 := h10.setObj (id := lid) (L := ⟨(w.alloc (.deferred (some []))).heap.size, 0⟩) (by rw [htm']; rfl) hL (.loop { r3 with state := .exhausted }) .dead trivial
    have hend := run_endLoop (P := E.P) k2 k3.1
    rw [hsz1] at hend hM4
    refine ⟨none, setBlock w3 (w.heap.size + 1) (.loop { r3 with state := .exhausted }), by rw [hend]; exact congrArg (fun p => Result.ok p (setBlock w3 (w.heap.size + 1) (.loop { r3 with state := .exhausted }))) k3.2.1, ?_⟩
    have hle3 : m.le m3 := hle02.trans h8
    obtain ⟨bs, b1, b2, b3⟩ := hD.defers
    refine ⟨_, hK z hz, m3, hD.size, ⟨w.heap.size :: bs, by simp [b1], List.nodup_cons.2 ⟨fun hb => ?_, b2⟩, fun b hb => ?_⟩, hD.le.trans hle3, hD.ids, fun i => R.mono hle3 _ _ (hD.tmps i), ?_⟩
    · have := block_lt (hM.ro _ _ (b3 _ hb).1)
      omega
    · rcases List.mem_cons.1 hb with rfl | hb
      · exact ⟨h8.ro _ _ (hle2.ro _ _ hmark), hM.size⟩
      · exact ⟨hle3.ro _ _ (b3 b hb).1, (b3 b hb).2⟩
    · exact hM4
theorem WkL {t : Nat → AV} : ∀ {tm : List (Nat × AV)}, (∀ p ∈ tm, Wk (t p.1) p.2) → ∀ i, Wk (t i) (ofL .junk tm i) := fun {tm} h i => by
  rcases ofL_mem (d := AV.junk) (l := tm) (i := i) with h' | h'
  · rw [h']; exact Wk.junk _
  · exact h _ h'
theorem WkL1 {t : Nat → AV} {i : Nat} {x : AV} (h : Wk (t i) x) : ∀ j, Wk (t j) (ofL .junk [(i, x)] j) := WkL fun p hp => by simp only [List.mem_singleton] at hp; subst hp; exact h
theorem ofL_keys {α : Type} {d : α} (l : List (Nat × α)) (i : Nat) (h : ofL d l i ≠ d) : i ∈ keys l := by
  rcases ofL_mem (d := d) (l := l) (i := i) with h' | h'
  · exact absurd h' h
  · exact List.mem_map.2 ⟨_, h', rfl⟩
end Go.Proofs.YtfbjoamdkieamaaGreat.AM
end

section
set_option linter.unusedSimpArgs false
set_option linter.unusedVariables false
namespace Go.Proofs.YtfbjoamdkieamaaGreat.AM
open Go

def mkfF (T : Nat → AV) (f : Fn) (first cap : Array Operand) : Option SR := heads (first.toList.map (ev T)) fun a => heads (cap.toList.map (ev T)) fun b => some ⟨[], [], .fn f a b⟩

section
variable {E : Env} {T : Nat → AV} {H : Nat → HO} {d : Option Tmp} {ty : TypeId} {pos : String} {af : Array Edge} {g : Option (Nat × Bool)}
theorem OpL.mkf {f : Fn} {first cap : Array Operand} {rd : List Nat} {post : List (Nat × HO)} {v : AV} (h : mkfF T f first cap = some ⟨rd, post, v⟩) : OpL E ⟨d, .makeFunc f first cap, ty, pos, af, g⟩ T H rd post v := by
  unfold mkfF at h
  rw [heads_eq, heads_eq] at h
  simp only [Option.some.injEq, SR.mk.injEq] at h
  obtain ⟨rfl, rfl, rfl⟩ := h
  exact OpL.makeFunc (by simp) (by simp)

theorem OpL.max2 {X Y : Operand} {ats : Array TypeId} {x y : Int} (hx : ev T X = .int .i64 x) (hy : ev T Y = .int .i64 y) :
    OpL E ⟨d, .call { callee := .builtin .max, args := #[X, Y], argTypes := ats }, ty, pos, af, g⟩ T H [] [] (.int .i64 (max x y)) :=
  OpL.pure (by simp) fun m a w hT => by
    have h1 : a.eval X = .int .i64 x := by have := hT X (by simp [Op.operands, Call.operands]); rw [hx] at this; exact this
    have h2 : a.eval Y = .int .i64 y := by have := hT Y (by simp [Op.operands, Call.operands]); rw [hy] at this; exact this
    refine ⟨.int .i64 (max x y), ?_, rfl⟩
    have h3 : (if y > x then y else x) = max x y := by omega
    simp [execOp, resolve, h1, h2, invoke, builtin, Builtin.max_, Builtin.max2, h3]

theorem run_equalIn_slnil {P : Program} {t e : TypeId} (h : P.underlying t = some (.slice e)) (dp : Nat) (a : Option Addr) (n c : Nat) (w : World) : (Op.equalIn (dp + 1) t (.slice a n c) (.slice none 0 0)).run P w = .ok a.isNone w := by
  cases a <;> simp only [Op.equalIn, Sem.run_bind, run_underlying h, Result.andThen_ok, Sem.run_pure] <;> rfl

/-- A comparison of a slice with nil: what it says of the list. -/
theorem run_nilq {E : Env} {t e : TypeId} (hk : (E.td t).kind = .slice e) {m : Mem} {c : Bool} {w : Nat} {l : List AV} {v : Value} (hv : R m (.list c w l) v) (wd : World) :
    ∃ b : Bool, (Op.equal t v (.slice none 0 0)).run E.P wd = .ok b wd ∧ (b = true → l = []) ∧ (b = false → c = true → l ≠ []) := by
  obtain ⟨a, cap, rfl, h2, h3, h4, h5⟩ := hv
  refine ⟨a.isNone, run_equalIn_slnil (Env.und_slice hk) 9999 a _ _ wd, fun h => ?_, fun h hc hl => ?_⟩
  · by_cases hl : l = []
    · exact hl
    · obtain ⟨b, o, cs, T', fr, h', _⟩ := h5 hl
      rw [h'] at h; cases h
  · rw [(h4 hc hl).1] at h; cases h
end

/-- A slice that is read alone, against nil. -/
theorem GoOps.nilq {E : Env} {X : Ctx} {nt : Nat} {ops : Array Oper} {ol : List Oper} {K : AS → Prop} {t : Nat → AV} {h : Nat → HO} {k : List Nat} {i : Nat} {ty te yt e : TypeId} {pos : String} {af : Array Edge} {Y : Operand} {c : Bool} {w : Nat} {l : List AV}
    (hx : ev t Y = .list c w l) (hk : (E.td te).kind = .slice e) (h1 : l = [] → GoOps E X nt ops ol K ⟨upd t i (.bool true), h, k⟩) (h2 : (c = true → l ≠ []) → GoOps E X nt ops ol K ⟨upd t i (.bool false), h, k⟩) :
    GoOps E X nt ops (⟨some i, .binOp .eql te Y (.const (.slice none 0 0)) yt, ty, pos, af, none⟩ :: ol) K ⟨t, h, k⟩ := by
  refine ⟨fun hl Q' a wd hQ hD => ?_⟩
  obtain ⟨hd, hl⟩ := dstsLt_cons hl
  obtain ⟨m, hD⟩ := hD
  have hv : R m (ev t Y) (a.eval Y) := hD.evals Y
  rw [hx] at hv
  obtain ⟨b, hrun, hb1, hb2⟩ := run_nilq (E := E) (t := te) hk hv wd
  refine wpListIn_plain rfl fun K' hK' => ?_
  have hsl : ∃ ad n cap, a.eval Y = .slice ad n cap := by obtain ⟨ad, cap, h, _⟩ := hv; exact ⟨ad, _, cap, h⟩
  obtain ⟨ad, n, cap, hsl⟩ := hsl
  have hrun2 : (execOp a.eval ⟨some i, .binOp .eql te Y (.const (.slice none 0 0)) yt, ty, pos, af, none⟩).run E.P wd = .ok (.value (.bool b)) wd := by
    have he : a.eval (.const (.slice none 0 0)) = .slice none 0 0 := rfl
    rw [hsl] at hrun
    simp only [execOp, hsl, he, eqGuard, Go.binOp, Sem.run_bind, Sem.run_pure]
    simp
    rw [hrun]
    rfl
  cases b with
  | true => exact wpIn_value (by simp) hrun2 (hK' _ _ ((h1 (hb1 rfl)).out hl Q' _ wd hQ ⟨m, hD.put hd (Mem.le.refl m) hD.mem rfl⟩))
  | false => exact wpIn_value (by simp) hrun2 (hK' _ _ ((h2 (hb2 rfl)).out hl Q' _ wd hQ ⟨m, hD.put hd (Mem.le.refl m) hD.mem rfl⟩))

theorem mget_mput {κ ν : Type} [DecidableEq κ] (l : List (κ × ν)) (a b : κ) (v : ν) : mget (mput l a v) b = if b = a then some v else mget l b := by
  induction l with
  | nil => simp [mput, mget]
  | cons p l ih =>
    simp only [mput]
    by_cases h : a = p.1
    · subst h
      simp only [if_pos, mget]
      by_cases hb : b = p.1
      · simp [hb]
      · simp [hb]
    · simp only [if_neg h, mget, ih]
      by_cases hb : b = p.1
      · subst hb; simp [Ne.symm h]
      · simp [hb]

/-! ### m[k]++ in a region that draws: the entry may be made before the old value is looked up -/
def softNe : Option Soft → Nat → Bool
  | none, _ => true
  | some f, n => !Nat.beq f.s n
theorem softNe_ne {sf : Option Soft} {n : Nat} (h : softNe sf n = true) : ∀ f, sf = some f → f.s ≠ n := by
  rintro f rfl he
  simp only [softNe, Bool.not_eq_true'] at h
  subst he
  have : Nat.beq f.s f.s = true := by simp
  rw [this] at h; cases h

section
variable {E : Env} {X : Ctx} {nt : Nat} {ops : Array Oper} {l : List Oper} {i : Nat} {op : Op} {ty : TypeId} {pos : String} {af : Array Edge} {rd : List Nat} {post : List (Nat × HO)} {v : AV} {K : AS → Prop} {ks : List Nat} {T0 : Nat → AV} {H0 : Nat → HO} {fpr : List (List Nat × List Nat)} {sf : Option Soft} {T : Nat → AV} {H : Nat → HO}
theorem GoDS.p (hs : softNe sf fpr.length = true) (hop : OpL E ⟨some i, op, ty, pos, af, none⟩ T H rd [] v) (hK : GoDS sf E X nt ops K ks T0 H0 ((rd, []) :: fpr) l (upd T i v) H) : GoDS sf E X nt ops K ks T0 H0 fpr (⟨some i, op, ty, pos, af, none⟩ :: l) T H :=
  GoDS.step (w := [(i, v)]) (w' := []) (f := (rd, [])) (EntOK.of (.inl ⟨.inl ⟨rfl, rfl⟩, v, hop, rfl, rfl⟩) (softNe_ne hs)) hK
theorem GoDS.a (hs : softNe sf fpr.length = true) (h : stepF E.td T H i op = some ⟨rd, [], v⟩) (hK : GoDS sf E X nt ops K ks T0 H0 ((rd, []) :: fpr) l (upd T i v) H) : GoDS sf E X nt ops K ks T0 H0 fpr (⟨some i, op, ty, pos, af, none⟩ :: l) T H := GoDS.p hs (stepF_ok h) hK
theorem GoDS.n (hs : softNe sf fpr.length = true) (hop : OpL E ⟨none, op, ty, pos, af, none⟩ T H rd post v) (hK : GoDS sf E X nt ops K ks T0 H0 ((rd, keys post) :: fpr) l T (updL H post)) : GoDS sf E X nt ops K ks T0 H0 fpr (⟨none, op, ty, pos, af, none⟩ :: l) T H :=
  GoDS.step (w := []) (w' := post) (f := (rd, keys post)) (EntOK.of (.inl ⟨.inl ⟨rfl, rfl⟩, v, hop, rfl, rfl⟩) (softNe_ne hs)) hK

variable {κ ν : Type} [DecidableEq κ] {fk : κ → AV} {fv : ν → AV}
theorem GoDS.lookup {t k e : TypeId} {M Ky : Operand} {id s : Nat} {es : List (κ × ν)} {a : κ} {z : ν} {td : TD} (hsf : sf = some ⟨fpr.length, s, id, .map (ents fk fv (mput es a ((mget es a).getD z)))⟩) (hne : Nat.beq s fpr.length = false)
    (hk : (E.td t).kind = .map k e) (hm : ev T M = .omap id) (hH : H id = .map (ents fk fv es)) (hK' : ev T Ky = fk a) (hkt : KeyT E.P k fk) (ht : E.td e = td) (hke : td.kind.known = true) (hz : td.zero = fv z)
    (hK : GoDS sf E X nt ops K ks T0 H0 (([], []) :: fpr) l (upd T i (fv ((mget es a).getD z))) H) : GoDS sf E X nt ops K ks T0 H0 fpr (⟨some i, .lookup t M Ky false, ty, pos, af, none⟩ :: l) T H := by
  refine GoDS.step (w := [(i, fv ((mget es a).getD z))]) (w' := []) (f := ([], [])) ⟨.inl ⟨.inl ⟨rfl, rfl⟩, _, fun H' _ hso => ?_, rfl, rfl⟩, fun f hf hn => ?_⟩ hK
  · rcases hso _ hsf rfl with h | h
    · exact ⟨_, OpL.lookup hk hm (h.trans hH) hK' hkt ht hke hz⟩
    · have := OpL.lookup (E := E) (H := H') (d := some i) (ty := ty) (pos := pos) (af := af) (g := none) hk hm h hK' hkt ht hke hz
      rw [mget_mput, if_pos rfl, Option.getD_some] at this
      exact ⟨_, this⟩
  · rw [hsf] at hf
    cases hf
    rw [show s = fpr.length from hn] at hne
    simp at hne
theorem GoDS.mapEntry {t k e : TypeId} {M Ky : Operand} {id j : Nat} {es : List (κ × ν)} {a : κ} {z : ν} {td : TD} (hsf : sf = some ⟨j, fpr.length, id, .map (ents fk fv (mput es a ((mget es a).getD z)))⟩)
    (hk : (E.td t).kind = .map k e) (hm : ev T M = .omap id) (hH : H id = .map (ents fk fv es)) (hK' : ev T Ky = fk a) (hkt : KeyT E.P k fk) (ht : E.td e = td) (hke : td.kind.known = true) (hz : td.zero = fv z)
    (hK : GoDS sf E X nt ops K ks T0 H0 (([id], [id]) :: fpr) l (upd T i (.tuple [fv ((mget es a).getD z), .int .i64 (mix es a : Nat)])) (upd H id (.map (ents fk fv (mput es a ((mget es a).getD z)))))) : GoDS sf E X nt ops K ks T0 H0 fpr (⟨some i, .mapEntry t M Ky, ty, pos, af, none⟩ :: l) T H := by
  have hop := OpL.mapEntry (E := E) (T := T) (H := H) (d := some i) (ty := ty) (pos := pos) (af := af) (g := none) hk hm hH hK' hkt ht hke hz
  refine GoDS.step (w := [(i, _)]) (w' := [(id, _)]) (f := ([id], [id])) ⟨.inl ⟨.inl ⟨rfl, rfl⟩, _, fun H' hH' _ => ⟨_, hop.congr (fun _ _ => rfl) hH'⟩, rfl, rfl⟩, fun f hf hn g => ?_⟩ hK
  rw [hsf] at hf
  cases hf
  simp only [updL]
  rw [upd_same]
end
theorem GoC.drawS {E : Env} {X : Ctx} {nt : Nat} {ops : Array Oper} {c : Nat} {Q : Exit → AS → Prop} {t : Nat → AV} {h : Nat → HO} {k : List Nat} (sf : Option Soft) (hm : E.P.follows .mixedOrders = true) (hG : GoDS sf E X nt ops (Q .normal) k t h [] ops.toList t h) : GoC E X nt (.region c ops true) Q ⟨t, h, k⟩ := by
  refine ⟨fun a w ⟨m, hD⟩ => wpIn_region_any hm ?_⟩
  have h0 : Good E ops nt sf t h [] [] [].reverse := ⟨rfl, rfl, fun i o f w w' _ h2 => by simp at h2⟩
  refine hG.out [] [] h0 rfl rfl rfl _ a _ (fun s' a' w' hq hd => ⟨s', hq, hd⟩) ⟨m, hD.size, hD.defers, hD.le, hD.ids, hD.tmps, ?_⟩
  exact hD.mem.world rfl rfl rfl (Nat.le_refl _) (fun _ _ => rfl)
end Go.Proofs.YtfbjoamdkieamaaGreat.AM
end

section
set_option linter.unusedSimpArgs false
set_option linter.unusedVariables false
namespace Go.Proofs.YtfbjoamdkieamaaGreat.AM
open Go

def eqTs : List Nat := [36, 75, 150, 24]
set_option maxRecDepth 100000 in
theorem env_eqAll : (eqTs.all fun t => eqT Tryz.prog t) = true := by kernel_rfl
theorem env_eqs {t : Nat} (h : eqTs.contains t = true) : eqT env.P t = true := List.all_eq_true.1 env_eqAll t (by simpa using h)

abbrev I (n : Int) : AV := .int .i64 n
structure Zone where
  cyl : Int
  sec : Int
  deriving DecidableEq, Inhabited
structure Span where
  low : Int
  high : Int
  deriving DecidableEq, Inhabited
structure Disk where
  heads : Int
  turn : Int
  zones : List Zone
  headSkew : Int
  cylSkew : Int
  hs : Span
  cs : Span
  deriving DecidableEq, Inhabited
structure Defect where
  id : Int
  stamp : Int
  sector : Int
  deriving DecidableEq, Inhabited
structure Format where
  disk : Disk
  spares : Int
  primary : List Int
  grown : List Defect
  deriving DecidableEq, Inhabited
structure Place where
  cyl : Int
  head : Int
  sec : Int
  deriving DecidableEq, Inhabited

def ints (c : Bool) (l : List Int) : AV := .list c 1 (l.map (.int .i64))
def Zone.av (z : Zone) : AV := .agg [.int .i64 z.cyl, .int .i64 z.sec]
def Span.av (s : Span) : AV := .agg [.int .i64 s.low, .int .i64 s.high]
def Disk.av (d : Disk) : AV := .agg [.int .i64 d.heads, .int .i64 d.turn, .list false 2 (d.zones.map Zone.av), .int .i64 d.headSkew, .int .i64 d.cylSkew, .int .i64 d.hs.low, .int .i64 d.hs.high, .int .i64 d.cs.low, .int .i64 d.cs.high]
def Defect.av (d : Defect) : AV := .agg [.int .i64 d.id, .int .i64 d.stamp, .int .i64 d.sector]
def Format.av (f : Format) : AV := .agg [.int .i64 f.disk.heads, .int .i64 f.disk.turn, .list false 2 (f.disk.zones.map Zone.av), .int .i64 f.disk.headSkew, .int .i64 f.disk.cylSkew, .int .i64 f.disk.hs.low, .int .i64 f.disk.hs.high, .int .i64 f.disk.cs.low, .int .i64 f.disk.cs.high,
  .int .i64 f.spares, .list false 1 (f.primary.map (.int .i64)), .list false 3 (f.grown.map Defect.av)]
def Place.av (p : Place) : AV := .agg [.int .i64 p.cyl, .int .i64 p.head, .int .i64 p.sec]

theorem Defect.keyT : KeyT env.P 36 Defect.av :=
  KeyT.ofStruct (E := env) (fs := [(0, 3), (1, 3), (2, 3)]) (fun d => [.int .i64 d.id, .int .i64 d.stamp, .int .i64 d.sector]) (env_eqs rfl) rfl (fun _ => rfl) (fun d x hx => by simp at hx; rcases hx with rfl | rfl | rfl <;> exact ⟨_, rfl⟩)
    fun a b => ⟨[(a.id, b.id), (a.stamp, b.stamp), (a.sector, b.sector)], rfl, by cases a; cases b; simp [AllEq]⟩
theorem int_keyT : KeyT env.P 3 (AV.int .i64) := KeyT.ofInt (Env.und_int (E := env) rfl)
end Go.Proofs.YtfbjoamdkieamaaGreat.AM
end

section
set_option linter.unusedSimpArgs false
set_option linter.unusedVariables false
set_option maxHeartbeats 8000000
namespace Go.Proofs.YtfbjoamdkieamaaGreat.AM
open Go

def sumOf {α : Type} (f : α → Int) : List α → Int
  | [] => 0
  | x :: r => f x + sumOf f r
theorem sumOf_append {α : Type} (f : α → Int) (l r : List α) : sumOf f (l ++ r) = sumOf f l + sumOf f r := by
  induction l with
  | nil => simp [sumOf]
  | cons x l ih => simp only [List.cons_append, sumOf, ih]; omega
theorem sumOf_take {α : Type} [Inhabited α] (f : α → Int) {l : List α} {i : Nat} (h : i < l.length) : sumOf f (l.take (i + 1)) = sumOf f (l.take i) + f (l.getD i default) := by
  rw [gd h, List.take_add_one, List.getElem?_eq_getElem h, sumOf_append]
  simp [sumOf]
theorem sumOf_le {α : Type} (f : α → Int) {l : List α} {b : Int} (h : ∀ x ∈ l, 0 ≤ f x ∧ f x ≤ b) : 0 ≤ sumOf f l ∧ sumOf f l ≤ b * l.length := by
  induction l with
  | nil => simp [sumOf]
  | cons x r ih =>
    have h1 := h x (by simp)
    have h2 := ih fun y hy => h y (by simp [hy])
    simp only [sumOf, List.length_cons] at *
    have : b * ((r.length + 1 : Nat) : Int) = b * r.length + b := by rw [Int.natCast_add, Int.mul_add]; simp
    omega

structure Disk.Good (d : Disk) : Prop where
  heads : 1 ≤ d.heads ∧ d.heads ≤ 4
  turn : 1 ≤ d.turn ∧ d.turn ≤ 1000
  len : 1 ≤ d.zones.length ∧ d.zones.length ≤ 4
  zone : ∀ z ∈ d.zones, (1 ≤ z.cyl ∧ z.cyl ≤ 20) ∧ 1 ≤ z.sec ∧ z.sec ≤ 16

theorem mem_gd {α : Type} [Inhabited α] {l : List α} {i : Nat} (h : i < l.length) : l.getD i default ∈ l := by rw [gd h]; exact List.getElem_mem h

theorem Disk.Good.cyl {d : Disk} (hd : d.Good) (i : Nat) : 0 ≤ sumOf Zone.cyl (d.zones.take i) ∧ sumOf Zone.cyl (d.zones.take i) ≤ 80 := by
  have h := sumOf_le Zone.cyl (l := d.zones.take i) (b := 20) fun z hz => by have := (hd.zone z (List.mem_of_mem_take hz)).1; omega
  have h2 := hd.len
  have : (d.zones.take i).length ≤ 4 := by simp; omega
  omega

theorem Cylinders_spec (d : Disk) (hd : d.Good) : PSpec env 126 [d.av] (.int .i64 (sumOf Zone.cyl d.zones)) := by
  refine Spec.intro (nt := _) (rs := [_]) Tryz.func126 rfl rfl rfl rfl rfl [] (fun _ h => absurd rfl h) fun X => ?_
  repeat' (first | refine GoC.seq ?_ | refine GoC.block ?_ | refine GoC.region rfl ?_ | refine GoOps.nil ?_ | refine GoOps.a rfl ?_ | refine GoOps.m (OpL.boxw (by rfl) rfl rfl rfl rfl) ?_)
  refine GoC.loop (G := Nat) (fun i => ⟨ofL .junk [(1, .ptr 1 9 0 0), (3, .int .i64 (sumOf Zone.cyl (d.zones.take i))), (4, .int .i64 i)], ofL .free [(1, .arr 26 9 [d.av])], []⟩) (fun i => i ≤ d.zones.length) (fun i => d.zones.length - i) 0 (Nat.zero_le _) (by (refine AS.sub.mk' _ _ (lk []) rfl rfl ?_ ?_ <;> repeat' (first | exact True.intro | rfl | exact Wk.refl _ | exact ⟨_, rfl, Elems.all rfl⟩ | refine And.intro ?_ ?_))) ?_
  intro i hi R hR
  have hb := hd.len
  have hs := hd.cyl i
  have hz : i < d.zones.length → (1 ≤ (d.zones.getD i default).cyl ∧ (d.zones.getD i default).cyl ≤ 20) := fun h => (hd.zone _ (mem_gd h)).1
  have ht : i < d.zones.length → sumOf Zone.cyl (d.zones.take (i + 1)) = sumOf Zone.cyl (d.zones.take i) + (d.zones.getD i default).cyl := fun h => sumOf_take _ h
  repeat' (first | refine GoC.seq ?_ | refine GoC.block ?_ | refine GoC.region rfl ?_ | refine GoC.skip ?_ | refine GoC.exit ?_ | refine GoC.ret ?_ | (refine GoC.cond_d rfl ?_ ?_ <;> intro _ <;> try contradiction) | refine GoOps.nil ?_ | refine GoOps.a rfl ?_ | refine GoOps.p (OpL.len rfl rfl) ?_ | refine GoOps.p (OpL.idx rfl rfl (by with_reducible exact rfl) rfl rfl rfl rfl (by (first | assumption | omega))) ?_ | refine GoOps.p (OpL.add rfl rfl (by (first | assumption | omega))) ?_)
  · exact hR (i + 1) _ (by omega) (by omega) (by (refine AS.sub.mk' _ _ (lk []) rfl rfl ?_ ?_ <;> repeat' (first | exact True.intro | rfl | exact Wk.refl _ | exact Wk.of_eq (congrArg (AV.int .i64) (by omega)) | exact ⟨_, rfl, Elems.all rfl⟩ | refine And.intro ?_ ?_)))
  · ((try dsimp only [thenA, inBlockA]); refine FnPost.many (.inr rfl) (RetOK.hv rfl RetOK.nil) ?_; (try dsimp only [tup]))
    rw [List.take_of_length_le (by omega)]

def zoneIx : List Zone → Int → Nat
  | [], _ => 0
  | z :: r, c => if c < z.cyl then 0 else zoneIx r (c - z.cyl) + 1
theorem zoneIx_step {l : List Zone} {i : Nat} (h : i < l.length) (c : Int) : (c < (l.getD i default).cyl → zoneIx (l.drop i) c = 0) ∧ (¬ c < (l.getD i default).cyl → zoneIx (l.drop i) c = zoneIx (l.drop (i + 1)) (c - (l.getD i default).cyl) + 1) := by
  rw [gd h, List.drop_eq_getElem_cons h]
  constructor <;> intro hc <;> simp only [zoneIx]
  · rw [if_pos hc]
  · rw [if_neg hc]
theorem sumOf_drop {α : Type} [Inhabited α] (f : α → Int) {l : List α} {i : Nat} (h : i < l.length) : sumOf f (l.drop i) = f (l.getD i default) + sumOf f (l.drop (i + 1)) := by
  rw [gd h, List.drop_eq_getElem_cons h]
  rfl
theorem zoneIx_lt {d : List Zone} : ∀ {c : Int}, c < sumOf Zone.cyl d → 0 ≤ c → zoneIx d c < d.length := by
  induction d with
  | nil => intro c h h'; simp [sumOf] at h; omega
  | cons z r ih =>
    intro c h h'
    simp only [sumOf] at h
    simp only [zoneIx, List.length_cons]
    split
    · omega
    · have := ih (c := c - z.cyl) (by omega) (by omega)
      omega

theorem ZoneOf_spec (d : Disk) (hd : d.Good) (c : Int) (h0 : 0 ≤ c) (hc : c < sumOf Zone.cyl d.zones) : PSpec env 110 [d.av, .int .i64 c] (.int .i64 (zoneIx d.zones c : Nat)) := by
  refine Spec.intro (nt := _) (rs := [_]) Tryz.func110 rfl rfl rfl rfl rfl [] (fun _ h => absurd rfl h) fun X => ?_
  repeat' (first | refine GoC.seq ?_ | refine GoC.block ?_ | refine GoC.region rfl ?_ | refine GoOps.nil ?_ | refine GoOps.a rfl ?_ | refine GoOps.m (OpL.boxw (by rfl) rfl rfl rfl rfl) ?_)
  refine GoC.loop (G := Nat × Int) (fun g => ⟨ofL .junk [(1, .int .i64 g.2), (2, .ptr 2 9 0 0), (5, .int .i64 g.1)], ofL .free [(2, .arr 26 9 [d.av])], []⟩) (fun g => g.1 ≤ d.zones.length ∧ 0 ≤ g.2 ∧ g.2 ≤ 80 ∧ g.2 < sumOf Zone.cyl (d.zones.drop g.1) ∧ zoneIx d.zones c = g.1 + zoneIx (d.zones.drop g.1) g.2) (fun g => d.zones.length - g.1) (0, c)
    ⟨Nat.zero_le _, h0, by have := (hd.cyl 4).2; rw [List.take_of_length_le hd.len.2] at this; show c ≤ 80; omega, hc, by simp⟩ (by (refine AS.sub.mk' _ _ (lk []) rfl rfl ?_ ?_ <;> repeat' (first | exact True.intro | rfl | exact Wk.refl _ | exact ⟨_, rfl, Elems.all rfl⟩ | refine And.intro ?_ ?_))) ?_
  rintro ⟨i, c'⟩ ⟨hi, hc0, hc1, hc2, hc3⟩ R hR
  dsimp only at *
  have hb := hd.len
  have hz : i < d.zones.length → (1 ≤ (d.zones.getD i default).cyl ∧ (d.zones.getD i default).cyl ≤ 20) := fun h => (hd.zone _ (mem_gd h)).1
  repeat' (first | refine GoC.seq ?_ | refine GoC.block ?_ | refine GoC.region rfl ?_ | refine GoC.skip ?_ | refine GoC.exit ?_ | refine GoC.ret ?_ | (refine GoC.cond_d rfl ?_ ?_ <;> intro _ <;> try contradiction) | refine GoOps.nil ?_ | refine GoOps.a rfl ?_ | refine GoOps.p (OpL.len rfl rfl) ?_ | refine GoOps.p (OpL.idx rfl rfl (by with_reducible exact rfl) rfl rfl rfl rfl (by (first | assumption | omega))) ?_ | refine GoOps.p (OpL.add rfl rfl (by (first | assumption | omega))) ?_ | refine GoOps.p (OpL.sub rfl rfl (by (first | assumption | omega))) ?_)
  · have h := (zoneIx_step (l := d.zones) (i := i) (by omega) c').1 (by assumption)
    ((try dsimp only [thenA, inBlockA]); refine FnPost.many (.inr rfl) (RetOK.hv rfl RetOK.nil) ?_; (try dsimp only [tup]))
    rw [hc3, h]; rfl
  · have h := (zoneIx_step (l := d.zones) (i := i) (by omega) c').2 (by assumption)
    have h2 := sumOf_drop Zone.cyl (l := d.zones) (i := i) (by omega)
    exact hR (i + 1, c' - (d.zones.getD i default).cyl) _ ⟨by omega, by dsimp only; omega, by dsimp only; omega, by dsimp only; omega, by dsimp only; omega⟩ (by dsimp only; omega) (by (refine AS.sub.mk' _ _ (lk []) rfl rfl ?_ ?_ <;> repeat' (first | exact True.intro | rfl | exact Wk.refl _ | exact ⟨_, rfl, Elems.all rfl⟩ | refine And.intro ?_ ?_)))
  · exfalso
    rw [List.drop_of_length_le (by omega)] at hc2
    simp only [sumOf] at hc2
    omega

def Disk.secOf (d : Disk) (c : Int) : Int := (d.zones.getD (zoneIx d.zones c) default).sec

theorem Sectors_spec (d : Disk) (hd : d.Good) (c : Int) (h0 : 0 ≤ c) (hc : c < sumOf Zone.cyl d.zones) : PSpec env 127 [d.av, .int .i64 c] (.int .i64 (d.secOf c)) := by
  have h1 := zoneIx_lt hc h0
  refine Spec.intro (nt := _) (rs := [_]) Tryz.func127 rfl rfl rfl rfl rfl [] (fun _ h => absurd rfl h) fun X => ?_
  repeat' (first | refine GoC.seq ?_ | refine GoC.region rfl ?_ | refine GoC.draw env_mixed ?_ | refine GoC.ret ?_ | refine GoOps.nil ?_ | refine GoD.done rfl rfl (by kernel_rfl) ?_ | refine GoOps.a rfl ?_ | refine GoD.a rfl ?_ | refine GoD.p (OpL.idx rfl rfl (by with_reducible exact rfl) rfl rfl rfl rfl (by (first | assumption | omega))) ?_ | refine GoOps.m (OpL.boxw (by rfl) rfl rfl rfl rfl) ?_ | refine GoD.p (OpL.call rfl rfl (ZoneOf_spec _ hd _ h0 hc) rfl rfl) ?_)
  ((try dsimp only [thenA, inBlockA]); refine FnPost.many (.inr rfl) (RetOK.hv rfl RetOK.nil) ?_; (try dsimp only [tup]))
  rfl

theorem Disk.Good.sec {d : Disk} (hd : d.Good) {i : Nat} (h : i < d.zones.length) : 1 ≤ (d.zones.getD i default).sec ∧ (d.zones.getD i default).sec ≤ 16 := (hd.zone _ (mem_gd h)).2
theorem Disk.Good.secOf {d : Disk} (hd : d.Good) {c : Int} (h0 : 0 ≤ c) (hc : c < sumOf Zone.cyl d.zones) : 1 ≤ d.secOf c ∧ d.secOf c ≤ 16 := hd.sec (zoneIx_lt hc h0)
theorem Disk.Good.cyl' {d : Disk} (hd : d.Good) : 0 ≤ sumOf Zone.cyl d.zones ∧ sumOf Zone.cyl d.zones ≤ 80 := by
  have := hd.cyl 4
  rwa [List.take_of_length_le hd.len.2] at this

def Disk.count (d : Disk) : Int := sumOf (fun z => z.cyl * z.sec * d.heads) d.zones

theorem prod3 {a b c : Int} (ha : 1 ≤ a ∧ a ≤ 20) (hb : 1 ≤ b ∧ b ≤ 16) (hc : 1 ≤ c ∧ c ≤ 4) : (1 ≤ a * b ∧ a * b ≤ 320) ∧ 1 ≤ a * b * c ∧ a * b * c ≤ 1280 := by
  have h1 : 1 ≤ a * b := by have := Int.mul_pos (a := a) (b := b) (by omega) (by omega); omega
  have h2 : a * b ≤ 20 * 16 := Int.mul_le_mul ha.2 hb.2 (by omega) (by omega)
  have h3 : 1 ≤ a * b * c := by have := Int.mul_pos (a := a * b) (b := c) (by omega) (by omega); omega
  have h4 : a * b * c ≤ 320 * 4 := Int.mul_le_mul (by omega) hc.2 (by omega) (by omega)
  omega

theorem Disk.Good.cnt {d : Disk} (hd : d.Good) (i : Nat) : 0 ≤ sumOf (fun z => z.cyl * z.sec * d.heads) (d.zones.take i) ∧ sumOf (fun z => z.cyl * z.sec * d.heads) (d.zones.take i) ≤ 5120 := by
  have h := sumOf_le (fun z => z.cyl * z.sec * d.heads) (l := d.zones.take i) (b := 1280) fun z hz => by
    have := hd.zone z (List.mem_of_mem_take hz)
    have := prod3 this.1 this.2 hd.heads
    omega
  have h2 := hd.len
  have : (d.zones.take i).length ≤ 4 := by simp; omega
  omega

theorem Count_spec (d : Disk) (hd : d.Good) : PSpec env 18 [d.av] (.int .i64 d.count) := by
  refine Spec.intro (nt := _) (rs := [_]) Tryz.func18 rfl rfl rfl rfl rfl [] (fun _ h => absurd rfl h) fun X => ?_
  repeat' (first | refine GoC.seq ?_ | refine GoC.block ?_ | refine GoC.region rfl ?_ | refine GoOps.nil ?_ | refine GoOps.a rfl ?_ | refine GoOps.m (OpL.boxw (by rfl) rfl rfl rfl rfl) ?_)
  refine GoC.loop (G := Nat) (fun i => ⟨ofL .junk [(1, .ptr 1 9 0 0), (3, .int .i64 (sumOf (fun z => z.cyl * z.sec * d.heads) (d.zones.take i))), (4, .int .i64 i)], ofL .free [(1, .arr 26 9 [d.av])], []⟩) (fun i => i ≤ d.zones.length) (fun i => d.zones.length - i) 0 (Nat.zero_le _) (by (refine AS.sub.mk' _ _ (lk []) rfl rfl ?_ ?_ <;> repeat' (first | exact True.intro | rfl | exact Wk.refl _ | exact ⟨_, rfl, Elems.all rfl⟩ | refine And.intro ?_ ?_))) ?_
  intro i hi R hR
  have hb := hd.len
  have hs := hd.cnt i
  have hz : i < d.zones.length → ((1 ≤ (d.zones.getD i default).cyl * (d.zones.getD i default).sec ∧ (d.zones.getD i default).cyl * (d.zones.getD i default).sec ≤ 320) ∧ 1 ≤ (d.zones.getD i default).cyl * (d.zones.getD i default).sec * d.heads ∧ (d.zones.getD i default).cyl * (d.zones.getD i default).sec * d.heads ≤ 1280) := fun h => prod3 (hd.zone _ (mem_gd h)).1 (hd.sec h) hd.heads
  have ht : i < d.zones.length → sumOf (fun z => z.cyl * z.sec * d.heads) (d.zones.take (i + 1)) = sumOf (fun z => z.cyl * z.sec * d.heads) (d.zones.take i) + (d.zones.getD i default).cyl * (d.zones.getD i default).sec * d.heads := fun h => sumOf_take _ h
  repeat' (first | refine GoC.seq ?_ | refine GoC.block ?_ | refine GoC.region rfl ?_ | refine GoC.draw env_mixed ?_ | refine GoC.skip ?_ | refine GoC.exit ?_ | refine GoC.ret ?_ | (refine GoC.cond_d rfl ?_ ?_ <;> intro _ <;> try contradiction) | refine GoOps.nil ?_ | refine GoD.done rfl rfl (by kernel_rfl) ?_ | refine GoOps.a rfl ?_ | refine GoD.a rfl ?_ | refine GoOps.p (OpL.len rfl rfl) ?_ | refine GoD.p (OpL.idx rfl rfl (by with_reducible exact rfl) rfl rfl rfl rfl (by (first | assumption | omega))) ?_ | refine GoOps.p (OpL.add rfl rfl (by (first | assumption | omega))) ?_ | refine GoD.p (OpL.add rfl rfl (by (first | assumption | omega))) ?_ | refine GoD.p (OpL.mul rfl rfl (by (first | assumption | omega))) ?_)
  · exact hR (i + 1) _ (by omega) (by omega) (by (refine AS.sub.mk' _ _ (lk []) rfl rfl ?_ ?_ <;> repeat' (first | exact True.intro | rfl | exact Wk.refl _ | exact Wk.of_eq (congrArg (AV.int .i64) (by omega)) | exact ⟨_, rfl, Elems.all rfl⟩ | refine And.intro ?_ ?_)))
  · ((try dsimp only [thenA, inBlockA]); refine FnPost.many (.inr rfl) (RetOK.hv rfl RetOK.nil) ?_; (try dsimp only [tup]))
    rw [List.take_of_length_le (by omega)]
    rfl

theorem within_spec (n lo hi : Int) : PSpec env 41 [.int .i64 n, .int .i64 lo, .int .i64 hi] (.bool (decide (lo ≤ n ∧ n ≤ hi))) := by
  refine Spec.intro (nt := _) (rs := [_]) Tryz.func41 rfl rfl rfl rfl rfl [] (fun _ h => absurd rfl h) fun X => ?_
  repeat' (first | refine GoC.seq ?_ | refine GoC.region rfl ?_ | refine GoC.ret ?_ | refine GoOps.nil ?_ | refine GoOps.a rfl ?_ | refine GoOps.u rfl rfl rfl rfl ?_ | refine GoOps.gs rfl rfl rfl rfl ?_ | (refine GoOps.sd rfl rfl ?_ ?_ <;> intro _ <;> try contradiction))
  all_goals (((try dsimp only [thenA, inBlockA]); refine FnPost.many (.inr rfl) (RetOK.hv rfl RetOK.nil) ?_; (try dsimp only [tup])); simp [*])

theorem IsSector_spec (d : Disk) (hd : d.Good) (n : Int) : PSpec env 15 [d.av, .int .i64 n] (.bool (decide (0 ≤ n ∧ n ≤ d.count - 1))) := by
  have h1 := hd.cnt 4
  rw [List.take_of_length_le hd.len.2] at h1
  have h2 : d.count = sumOf (fun z => z.cyl * z.sec * d.heads) d.zones := rfl
  refine Spec.intro (nt := _) (rs := [_]) Tryz.func15 rfl rfl rfl rfl rfl [] (fun _ h => absurd rfl h) fun X => ?_
  repeat' (first | refine GoC.seq ?_ | refine GoC.region rfl ?_ | refine GoC.ret ?_ | refine GoOps.nil ?_ | refine GoOps.a rfl ?_ | refine GoOps.p (OpL.sub rfl rfl (by (first | assumption | omega))) ?_ | refine GoOps.m (OpL.boxw (by rfl) rfl rfl rfl rfl) ?_ | refine GoOps.p (OpL.call rfl rfl (Count_spec _ hd) rfl rfl) ?_ | refine GoOps.p (OpL.call rfl rfl (within_spec _ _ _) rfl rfl) ?_)
  ((try dsimp only [thenA, inBlockA]); refine FnPost.many (.inr rfl) (RetOK.hv rfl RetOK.nil) ?_; (try dsimp only [tup]))
end Go.Proofs.YtfbjoamdkieamaaGreat.AM
end

section
set_option linter.unusedSimpArgs false
set_option linter.unusedVariables false
set_option maxHeartbeats 8000000
namespace Go.Proofs.YtfbjoamdkieamaaGreat.AM
open Go

def headOK (d : Disk) : Prop := (1 ≤ d.heads ∧ d.heads ≤ 4) ∧ (1 ≤ d.turn ∧ d.turn ≤ 1000) ∧ (1 ≤ (d.zones.length : Int) ∧ (d.zones.length : Int) ≤ 4) ∧ (0 ≤ d.headSkew ∧ d.headSkew ≤ d.turn - 1) ∧ (0 ≤ d.cylSkew ∧ d.cylSkew ≤ d.turn - 1)
def zoneOK (t : Int) (z : Zone) : Prop := (1 ≤ z.cyl ∧ z.cyl ≤ 20) ∧ (1 ≤ z.sec ∧ z.sec ≤ 16) ∧ t % z.sec = 0
def spanOK (s : Span) : Prop := 0 ≤ s.low ∧ s.low ≤ s.high ∧ s.high ≤ 2000
def Disk.ok (d : Disk) : Prop := headOK d ∧ (∀ z ∈ d.zones, zoneOK d.turn z) ∧ spanOK d.hs ∧ spanOK d.cs
instance (d : Disk) : Decidable d.ok := by unfold Disk.ok headOK zoneOK spanOK; infer_instance
theorem Disk.ok.good {d : Disk} (h : d.ok) : d.Good := by
  obtain ⟨⟨h1, h2, h3, _⟩, h4, _⟩ := h
  exact ⟨h1, h2, by omega, fun z hz => ⟨(h4 z hz).1, (h4 z hz).2.1⟩⟩

theorem Check01_spec (d : Disk) : PSpec env 50 [d.av] (.int .i64 (if d.ok then 0 else 10)) := by
  refine Spec.intro (nt := _) (rs := [_]) Tryz.func50 rfl rfl rfl rfl rfl [] (fun _ h => absurd rfl h) fun X => ?_
  have h0 : ¬ d.ok → (10 : Int) = if d.ok then 0 else 10 := fun h => (if_neg h).symm
  repeat' (first | refine GoC.seq ?_ | refine GoC.block ?_ | refine GoC.region rfl ?_ | refine GoC.skip ?_ | refine GoC.ret ?_ | refine GoC.cond_t rfl ?_ | (refine GoC.cond_n rfl ?_ ?_ <;> intro _ <;> try contradiction) | refine GoOps.nil ?_ | refine GoOps.a rfl ?_ | refine GoOps.u rfl rfl rfl rfl ?_ | refine GoOps.gs rfl rfl rfl rfl ?_ | refine GoOps.p (OpL.len rfl rfl) ?_ | refine GoOps.p (OpL.sub rfl rfl (by (first | assumption | omega))) ?_ | refine GoOps.m (OpL.boxw (by rfl) rfl rfl rfl rfl) ?_ | refine GoOps.p (OpL.call rfl rfl (within_spec _ _ _) rfl rfl) ?_ | (refine GoOps.sn rfl rfl ?_ ?_ <;> intro _ <;> try contradiction))
  iterate 5 (· ((try dsimp only [thenA, inBlockA]); refine FnPost.many (.inr rfl) (RetOK.hv rfl RetOK.nil) ?_; (try dsimp only [tup])); rw [if_neg (by rintro ⟨⟨h1, h2, h3, h4, h5⟩, _⟩; omega)])
  refine GoC.loop (G := Nat) (fun i => ⟨ofL .junk [(1, .ptr 1 9 0 0), (3, .int .i64 i)], ofL .free [(1, .arr 26 9 [d.av])], []⟩) (fun i => i ≤ d.zones.length ∧ ∀ j, j < i → zoneOK d.turn (d.zones.getD j default)) (fun i => d.zones.length - i) 0 ⟨Nat.zero_le _, fun j h => absurd h (Nat.not_lt_zero j)⟩ (by (refine AS.sub.mk' _ _ (lk []) rfl rfl ?_ ?_ <;> repeat' (first | exact True.intro | rfl | exact Wk.refl _ | exact ⟨_, rfl, Elems.all rfl⟩ | refine And.intro ?_ ?_))) ?_
  rintro i ⟨hi, hz⟩ R hR
  try dsimp only at *
  repeat' (first | refine GoC.seq ?_ | refine GoC.block ?_ | refine GoC.region rfl ?_ | refine GoC.skip ?_ | refine GoC.exit ?_ | refine GoC.ret ?_ | refine GoC.cond_t rfl ?_ | (refine GoC.cond_d rfl ?_ ?_ <;> intro _ <;> try contradiction) | refine GoOps.nil ?_ | refine GoOps.a rfl ?_ | refine GoOps.u rfl rfl rfl rfl ?_ | refine GoOps.gs rfl rfl rfl rfl ?_ | refine GoOps.b rfl ?_ | refine GoOps.p (OpL.len rfl rfl) ?_ | refine GoOps.p (OpL.idx rfl rfl (by with_reducible exact rfl) rfl rfl rfl rfl (by (first | assumption | omega))) ?_ | refine GoOps.p (OpL.add rfl rfl (by (first | assumption | omega))) ?_ | refine GoOps.p (OpL.remn rfl rfl (by (first | assumption | omega)) (by (first | assumption | omega))) ?_ | refine GoOps.n (OpL.st1 rfl) ?_ | refine GoOps.p (OpL.call rfl rfl (within_spec _ _ _) rfl rfl) ?_ | (refine GoOps.sd rfl rfl ?_ ?_ <;> intro _ <;> try contradiction) | (refine GoOps.sn rfl rfl ?_ ?_ <;> intro _ <;> try contradiction))
  iterate 3 (· ((try dsimp only [thenA, inBlockA]); refine FnPost.many (.inr rfl) (RetOK.hv rfl RetOK.nil) ?_; (try dsimp only [tup])); rw [if_neg (by rintro ⟨_, h2, _⟩; have h3 := h2 _ (mem_gd (l := d.zones) (i := i) (by omega)); obtain ⟨h3, h4, h5⟩ := h3; omega)])
  · refine hR (i + 1) _ ⟨by omega, fun j hj => ?_⟩ (by omega) (by (refine AS.sub.mk' _ _ (lk []) rfl rfl ?_ ?_ <;> repeat' (first | exact True.intro | rfl | exact Wk.refl _ | exact ⟨_, rfl, Elems.all rfl⟩ | refine And.intro ?_ ?_)))
    by_cases h : j < i
    · exact hz j h
    · obtain rfl : j = i := by omega
      exact ⟨by assumption, by assumption, by omega⟩
  iterate 6 (· ((try dsimp only [thenA, inBlockA]); refine FnPost.many (.inr rfl) (RetOK.hv rfl RetOK.nil) ?_; (try dsimp only [tup])); rw [if_neg (by rintro ⟨_, _, ⟨h1, h2, h3⟩, h4, h5, h6⟩; omega)])
  · have hall : ∀ z ∈ d.zones, zoneOK d.turn z := by
      intro z hz'
      obtain ⟨j, hj, rfl⟩ := List.mem_iff_getElem.1 hz'
      rw [← gd (d := default) hj]
      exact hz j (by omega)
    ((try dsimp only [thenA, inBlockA]); refine FnPost.many (.inr rfl) (RetOK.hv rfl RetOK.nil) ?_; (try dsimp only [tup]))
    rw [if_pos ⟨⟨by assumption, by assumption, by assumption, by assumption, by assumption⟩, hall, ⟨by omega, by omega, by omega⟩, by omega, by omega, by omega⟩]
end Go.Proofs.YtfbjoamdkieamaaGreat.AM
end
