/-
  For every format and sector the law LayoutMoves returns true and leaves its arguments as they were: no condition. (part 1 of 5)
-/
import Derived.WalkKit
import Derived.TacticsIn
import Derived.OwnWalkIn
import Derived.LoopNIn
import Derived.RangeFuncCalls
import Derived.RangeFuncLeaves
import Derived.OrdersIn

section
set_option linter.unusedVariables false
namespace Go.Proofs.YtfbjoamdkieamaaGreat.AM
open Go

/-- Abstract values. 'list c w l': a slice that is read alone, of elements of w cells; c: it is nil just where it is empty. 'ref x o': the address of cell o of x, which is read alone.
'ptr id w i o': the address of cell o of the element i of the object id. 'sl c id w off len': a slice of the object id. -/
inductive AV where
  | junk
  | int (k : IntKind) (n : Int)
  | bool (b : Bool)
  | raw (v : Value)
  | list (c : Bool) (w : Nat) (l : List AV)
  | agg (cs : List AV)
  | tuple (vs : List AV)
  | ref (x : AV) (o : Nat)
  | ptr (id w i o : Nat)
  | sl (c : Bool) (id w off len : Nat)
  | fn (f : Fn) (first cap : List AV)
  | omap (id : Nat)
  | yld (id : Nat)
  deriving Inhabited

/-- Where an object lies: its block, how many elements the block has room for. -/
structure Loc where
  blk : Nat
  cap : Nat

structure Mem where
  ro : Nat → Option Obj
  at_ : Nat → Option (Option Loc)

/-- The memory without names. -/
def Mem.noat (m : Mem) : Mem := { m with at_ := fun _ => none }

structure Mem.le (m m' : Mem) : Prop where
  ro : ∀ b o, m.ro b = some o → m'.ro b = some o
  at_ : ∀ i x, m.at_ i = some x → m'.at_ i = some x

theorem Mem.le.refl (m : Mem) : m.le m := ⟨fun _ _ h => h, fun _ _ h => h⟩
theorem Mem.le.trans {a b c : Mem} (h : a.le b) (h' : b.le c) : a.le c := ⟨fun _ _ x => h'.ro _ _ (h.ro _ _ x), fun _ _ x => h'.at_ _ _ (h.at_ _ _ x)⟩

theorem Mem.le.noat {m m' : Mem} (h : m.le m') : m.noat.le m'.noat := ⟨h.ro, fun _ _ h => h⟩
theorem Mem.noat_le (m : Mem) : m.noat.le m := ⟨fun _ _ h => h, fun _ _ h => by cases h⟩

/-- The cells of a value lie in a row of cells from a place on, and are so many. -/
def CellsAt (arr : Array Value) (o w : Nat) (u : Value) : Prop := u.cells.size = w ∧ ∀ j, j < w → arr[o + j]? = u.cells[j]?

def AV.cells : AV → List AV
  | .agg cs => cs
  | v => [v]

def slLoc (w off len : Nat) : Option Loc → Value → Prop
  | none, v => v = .slice none 0 0 ∧ len = 0 ∧ off = 0
  | some L, v => ∃ ad, v = .slice (some ad) len (L.cap - off) ∧ off + len ≤ L.cap ∧ L.cap ≤ maxLen ∧ (off < L.cap → ad = ⟨L.blk, off * w, none⟩)

mutual
def R (m : Mem) : AV → Value → Prop
  | .junk, _ => True
  | .int k n, v => v = .int k n
  | .bool b, v => v = .bool b
  | .raw u, v => v = u
  | .list c w l, v => ∃ a cap, v = .slice a l.length cap ∧ l.length ≤ cap ∧ cap ≤ maxLen ∧ (c = true → l = [] → a = none ∧ cap = 0) ∧
      (l ≠ [] → ∃ b o cs T fr, a = some ⟨b, o, none⟩ ∧ m.ro b = some (.cells cs T fr) ∧ RRow m.noat cs w o l)
  | .agg cs, v => ∃ vs : List Value, v = .agg vs.toArray ∧ RS m cs vs
  | .tuple cs, v => ∃ vs : List Value, v = .tuple vs.toArray ∧ RS m cs vs
  | .ref x o, v => ∃ b base cs T fr u, v = .pointer (some ⟨b, base + o, none⟩) ∧ m.ro b = some (.cells cs T fr) ∧ R m.noat x u ∧ CellsAt cs base u.cells.size u
  | .ptr id w i o, v => ∃ L, m.at_ id = some (some L) ∧ v = .pointer (some ⟨L.blk, i * w + o, none⟩)
  | .sl c id w off len, v => ∃ ol, m.at_ id = some ol ∧ slLoc w off len ol v ∧ (c = true → len = 0 → ol = none)
  | .fn f first cap, v => ∃ fs cs : List Value, v = .func f fs.toArray cs.toArray ∧ RS m first fs ∧ RS m cap cs
  | .omap id, v => ∃ L, m.at_ id = some (some L) ∧ v = .map (some L.blk)
  | .yld id, v => ∃ L, m.at_ id = some (some L) ∧ v = .func (.yield L.blk) #[] #[]
def RS (m : Mem) : List AV → List Value → Prop
  | [], vs => vs = []
  | x :: r, vs => ∃ v vs', vs = v :: vs' ∧ R m x v ∧ RS m r vs'
def RRow (m : Mem) (arr : Array Value) (w : Nat) : Nat → List AV → Prop
  | _, [] => True
  | o, x :: r => (∃ u, R m x u ∧ CellsAt arr o w u) ∧ RRow m arr w (o + w) r
end

mutual
theorem R.mono {m m' : Mem} (h : m.le m') : ∀ (x : AV) (v : Value), R m x v → R m' x v
  | .junk, _, _ => trivial
  | .int _ _, _, h' => h'
  | .bool _, _, h' => h'
  | .raw _, _, h' => h'
  | .list c w l, v, ⟨a, cap, h1, h2, h3, h4, h5⟩ => ⟨a, cap, h1, h2, h3, h4, fun hl => by
      obtain ⟨b, o, cs, T, fr, ha, hr, hrow⟩ := h5 hl
      exact ⟨b, o, cs, T, fr, ha, h.ro _ _ hr, RRow.mono h.noat cs w o l hrow⟩⟩
  | .agg cs, v, ⟨vs, h1, h2⟩ => ⟨vs, h1, RS.mono h cs vs h2⟩
  | .tuple cs, v, ⟨vs, h1, h2⟩ => ⟨vs, h1, RS.mono h cs vs h2⟩
  | .ref x o, v, ⟨b, base, cs, T, fr, u, h1, h2, h3, h4⟩ => ⟨b, base, cs, T, fr, u, h1, h.ro _ _ h2, R.mono h.noat x u h3, h4⟩
  | .ptr id w i o, v, ⟨L, h1, h2⟩ => ⟨L, h.at_ _ _ h1, h2⟩
  | .sl c id w off len, v, ⟨ol, h1, h2⟩ => ⟨ol, h.at_ _ _ h1, h2⟩
  | .fn f first cap, v, ⟨fs, cs, h1, h2, h3⟩ => ⟨fs, cs, h1, RS.mono h first fs h2, RS.mono h cap cs h3⟩
  | .omap id, v, ⟨L, h1, h2⟩ => ⟨L, h.at_ _ _ h1, h2⟩
  | .yld id, v, ⟨L, h1, h2⟩ => ⟨L, h.at_ _ _ h1, h2⟩
theorem RS.mono {m m' : Mem} (h : m.le m') : ∀ (xs : List AV) (vs : List Value), RS m xs vs → RS m' xs vs
  | [], _, h' => h'
  | x :: r, _, ⟨v, vs', h1, h2, h3⟩ => ⟨v, vs', h1, R.mono h x v h2, RS.mono h r vs' h3⟩
theorem RRow.mono {m m' : Mem} (h : m.le m') (arr : Array Value) (w : Nat) : ∀ (o : Nat) (xs : List AV), RRow m arr w o xs → RRow m' arr w o xs
  | _, [], _ => trivial
  | o, x :: r, ⟨⟨u, h1, h2⟩, h3⟩ => ⟨⟨u, R.mono h x u h1, h2⟩, RRow.mono h arr w (o + w) r h3⟩
end

/-! ### Objects, and what a step may assume of the memory -/
def upd {α : Type} (f : Nat → α) (i : Nat) (x : α) : Nat → α := fun j => bif Nat.beq j i then x else f j
def updL {α : Type} (f : Nat → α) : List (Nat × α) → Nat → α
  | [] => f
  | (i, x) :: r => upd (updL f r) i x
def ofL {α : Type} (d : α) (l : List (Nat × α)) : Nat → α := updL (fun _ => d) l

/-- An object: none yet, no more, a row of elements of w cells (t: what its block was made for), a map (its entries as they came), a walk through a map (the map's name, how many entries it has, which have come), the record of a range over a function (what its temporaries are). -/
inductive HO where
  | free
  | dead
  | arr (t w : Nat) (l : List AV)
  | map (es : List (AV × AV))
  | iter (mid n : Nat) (seen : List Nat)
  | loop (busy : Bool) (nt : Nat) (ps : Array Tmp) (asg body : Code) (tm : List (Nat × AV))
  deriving Inhabited

/-- The entries of a map, from number k on. -/
def REnt (m : Mem) : Nat → List (AV × AV) → List MapEntry → Prop
  | _, [], es => es = []
  | k, p :: r, es => ∃ e es', es = e :: es' ∧ e.born = k ∧ R m p.1 e.key ∧ R m p.2 e.val ∧ REnt m (k + 1) r es'
theorem REnt.mono {m m' : Mem} (h : m.le m') : ∀ {k : Nat} {l : List (AV × AV)} {es : List MapEntry}, REnt m k l es → REnt m' k l es
  | _, [], _, h' => h'
  | _, p :: r, _, ⟨e, es', h1, h2, h3, h4, h5⟩ => ⟨e, es', h1, h2, R.mono h _ _ h3, R.mono h _ _ h4, REnt.mono h h5⟩
theorem REnt.length {m : Mem} : ∀ {k : Nat} {l : List (AV × AV)} {es : List MapEntry}, REnt m k l es → es.length = l.length
  | _, [], _, h' => by rw [show _ = [] from h']; rfl
  | _, p :: r, _, ⟨e, es', h1, _, _, _, h5⟩ => by rw [h1]; simp [REnt.length h5]
def MapAt (m : Mem) (w : World) (es : List (AV × AV)) (L : Loc) : Prop := ∃ ents, w.heap[L.blk]? = some (.map ents ents.size) ∧ REnt m 0 es ents.toList

/-- The block holds the row l, is not frozen, and has the room that is known of it. -/
def ArrAt (m : Mem) (w : World) (t wd : Nat) (l : List AV) (L : Loc) : Prop :=
  ∃ cs, w.heap[L.blk]? = some (.cells cs t (0, 0)) ∧ cs.size = L.cap * wd ∧ l.length ≤ L.cap ∧ RRow m cs wd 0 l

/-- The record of a loop. -/
def LoopAt (m : Mem) (busy : Bool) (nt : Nat) (ps : Array Tmp) (asg body : Code) (tm : List (Nat × AV)) (r : Loop) : Prop :=
  r.state = (if busy then .busy else .ready) ∧ r.pending = none ∧ r.params = ps ∧ r.assign = asg ∧ r.body = body ∧ r.tmps.size = nt ∧ ∀ i, R m (ofL .junk tm i) (r.tmps.getD i undef)
theorem LoopAt.mono {m m' : Mem} (h : m.le m') {busy : Bool} {nt : Nat} {ps : Array Tmp} {asg body : Code} {tm : List (Nat × AV)} {r : Loop} (hl : LoopAt m busy nt ps asg body tm r) : LoopAt m' busy nt ps asg body tm r :=
  ⟨hl.1, hl.2.1, hl.2.2.1, hl.2.2.2.1, hl.2.2.2.2.1, hl.2.2.2.2.2.1, fun i => R.mono h _ _ (hl.2.2.2.2.2.2 i)⟩

def HOok (m : Mem) (w : World) (id : Nat) : HO → Prop
  | .free => m.at_ id = none
  | .dead => True
  | .arr t wd l => ∃ ol, m.at_ id = some ol ∧ (ol = none → l = []) ∧ ∀ L, ol = some L → ArrAt m w t wd l L
  | .map es => ∃ L, m.at_ id = some (some L) ∧ MapAt m w es L
  | .iter mid n seen => ∃ L Lm, m.at_ id = some (some L) ∧ m.at_ mid = some (some Lm) ∧ w.heap[L.blk]? = some (.mapIter (some Lm.blk) n seen.toArray n)
  | .loop busy nt ps asg body tm => ∃ L r, m.at_ id = some (some L) ∧ w.heap[L.blk]? = some (.loop r) ∧ LoopAt m busy nt ps asg body tm r

def HO.live : HO → Bool
  | .arr .. | .map _ | .iter .. | .loop .. => true
  | _ => false

/-- The memory as a call has it: r0, w0: what was known, and the world, when it began; mu: the blocks that it may write. -/
structure MemOK (r0 : Nat → Option Obj) (w0 : World) (mu : Nat → Prop) (m : Mem) (H : Nat → HO) (w : World) : Prop where
  os : w.os = w0.os
  tape : w.tape = w0.tape
  output : w.output = w0.output
  size : w0.heap.size ≤ w.heap.size
  block : ∀ i, i < w0.heap.size → ¬ mu i → w.heap[i]? = w0.heap[i]?
  ro : ∀ b o, m.ro b = some o → w.heap[b]? = some o
  told : ∀ b o, m.ro b = some o → r0 b = some o ∨ w0.heap.size ≤ b ∨ mu b
  obj : ∀ id, HOok m w id (H id)
  mine : ∀ id L, (H id).live = true → m.at_ id = some (some L) → m.ro L.blk = none ∧ (L.blk < w0.heap.size → mu L.blk)
  apart : ∀ id id' L L', id ≠ id' → (H id).live = true → (H id').live = true → m.at_ id = some (some L) → m.at_ id' = some (some L') → L.blk ≠ L'.blk

theorem upd_same {α : Type} (f : Nat → α) (i : Nat) (x : α) : upd f i x i = x := by simp [upd]
theorem upd_ne {α : Type} (f : Nat → α) (i j : Nat) (x : α) (h : j ≠ i) : upd f i x j = f j := by
  have : Nat.beq j i = false := by
    cases hb : Nat.beq j i
    · rfl
    · exact absurd (Nat.eq_of_beq_eq_true hb) h
  simp [upd, this]

end Go.Proofs.YtfbjoamdkieamaaGreat.AM
end

section
namespace Go.Proofs.YtfbjoamdkieamaaGreat.AM
open Go

/-! ### Types -/
inductive TK where
  | other | bool | int (k : IntKind) | string
  | pointer (e : Nat) | slice (e : Nat) | array (n e : Nat) | struct (fs : List (Nat × Nat)) | map (k e : Nat) | func | iface
  deriving DecidableEq, Inhabited

structure TD where
  kind : TK
  size : Nat
  bytes : Nat
  zero : AV
  deriving Inhabited

def kindOK : TK → TypeDesc → Bool
  | .bool, .bool => true
  | .int k, .int k' => k == k'
  | .string, .string => true
  | .pointer e, .pointer e' => e == e'
  | .slice e, .slice e' => e == e'
  | .array n e, .array n' e' => n == n' && e == e'
  | .struct fs, .struct fields => fields.toList.map (fun f => (f.offset, f.type)) == fs
  | .map k e, .map k' e' => k == k' && e == e'
  | .func, .func .. => true
  | .iface, .interface _ => true
  | _, _ => false

def rawZero : Value → Value → Bool
  | .pointer a, .pointer b => a.isNone && b.isNone
  | .map a, .map b => a.isNone && b.isNone
  | .nilFunc, .nilFunc => true
  | .nilIface, .nilIface => true
  | .string s, .string s' => s.size == 0 && s'.size == 0
  | _, _ => false
def nilSlice : Value → Bool
  | .slice a n k => a.isNone && n == 0 && k == 0
  | _ => false

mutual
def zeroOK : AV → Value → Bool
  | .int k n, v => match v with | .int k' n' => k == k' && n == n' | _ => false
  | .bool b, v => match v with | .bool b' => b == b' | _ => false
  | .list c _ l, v => c && l.isEmpty && nilSlice v
  | .raw u, v => rawZero u v
  | .agg xs, v => match v with | .agg vs => zeroOKs xs vs.toList | _ => false
  | _, _ => false
def zeroOKs : List AV → List Value → Bool
  | [], vs => vs.isEmpty
  | x :: xs, vs => match vs with | v :: vs => zeroOK x v && zeroOKs xs vs | [] => false
end

theorem size_zero_eq {s s' : ByteArray} (h : s.size = 0) (h' : s'.size = 0) : s' = s := by
  apply ByteArray.ext
  have e1 : s.data = #[] := Array.eq_empty_of_size_eq_zero h
  have e2 : s'.data = #[] := Array.eq_empty_of_size_eq_zero h'
  rw [e1, e2]

theorem rawZero_eq {u v : Value} (h : rawZero u v = true) : v = u := by
  unfold rawZero at h
  split at h <;> simp only [Bool.and_eq_true, Option.isNone_iff_eq_none, beq_iff_eq, Bool.false_eq_true] at h
  · rw [h.1, h.2]
  · rw [h.1, h.2]
  · rfl
  · rfl
  · rw [size_zero_eq h.1 h.2]

theorem nilSlice_eq {v : Value} (h : nilSlice v = true) : v = .slice none 0 0 := by
  unfold nilSlice at h
  split at h
  · simp only [Bool.and_eq_true, Option.isNone_iff_eq_none, beq_iff_eq] at h
    rw [h.1.1, h.1.2, h.2]
  · simp at h

theorem R_nil (m : Mem) (c : Bool) (w : Nat) : R m (.list c w []) (.slice none 0 0) := ⟨none, 0, rfl, Nat.le_refl _, Nat.zero_le _, fun _ _ => ⟨rfl, rfl⟩, fun h => absurd rfl h⟩

mutual
theorem R_zero (m : Mem) : ∀ (x : AV) (v : Value), zeroOK x v = true → R m x v := by
  intro x v h
  cases x with
  | int k n =>
    simp only [zeroOK] at h
    split at h
    · simp only [Bool.and_eq_true, beq_iff_eq] at h
      rw [R, h.1, h.2]
    · simp at h
  | bool b =>
    simp only [zeroOK] at h
    split at h
    · simp only [beq_iff_eq] at h
      rw [R, h]
    · simp at h
  | list c w l =>
    simp only [zeroOK, Bool.and_eq_true, List.isEmpty_iff] at h
    obtain ⟨⟨_, rfl⟩, h⟩ := h
    rw [nilSlice_eq h]
    exact R_nil m c w
  | raw u => exact rawZero_eq (by simpa only [zeroOK] using h)
  | agg xs =>
    simp only [zeroOK] at h
    split at h
    · rename_i vs
      exact ⟨vs.toList, by simp, RS_zero m xs vs.toList h⟩
    · simp at h
  | _ => simp [zeroOK] at h
theorem RS_zero (m : Mem) : ∀ (xs : List AV) (vs : List Value), zeroOKs xs vs = true → RS m xs vs := by
  intro xs vs h
  cases xs with
  | nil =>
    simp only [zeroOKs, List.isEmpty_iff] at h
    exact h
  | cons x xs =>
    simp only [zeroOKs] at h
    split at h
    · rename_i v vs'
      simp only [Bool.and_eq_true] at h
      exact ⟨v, vs', rfl, R_zero m x v h.1, RS_zero m xs vs' h.2⟩
    · simp at h
end

def TDok (P : Program) (t : Nat) (d : TD) : Bool :=
  match P.underlying t, P.info? t with
  | some u, some i => kindOK d.kind u && i.size == d.size && i.bytes == d.bytes && (match i.zero with | some z => zeroOK d.zero z && z.cells.size == d.size | none => false)
  | _, _ => false

structure Env where
  P : Program
  tab : List TD
  ok : ∀ t d, tab[t]? = some d → d.kind = .other ∨ TDok P t d = true

def Env.td (E : Env) (t : Nat) : TD := E.tab.getD t ⟨.other, 0, 0, .junk⟩

section
variable {E : Env} {t : Nat}
theorem Env.tdok (h : (E.td t).kind ≠ .other) : TDok E.P t (E.td t) = true := by
  unfold Env.td at *
  rw [List.getD_eq_getElem?_getD] at *
  cases ht : E.tab[t]? with
  | none => rw [ht] at h; simp at h
  | some d =>
    rw [ht] at h
    rcases E.ok t d ht with h' | h'
    · exact absurd h' h
    · simpa using h'

theorem Env.facts (h : (E.td t).kind ≠ .other) : ∃ u i z, E.P.underlying t = some u ∧ E.P.info? t = some i ∧ kindOK (E.td t).kind u = true ∧ i.size = (E.td t).size ∧ i.bytes = (E.td t).bytes ∧
    i.zero = some z ∧ zeroOK (E.td t).zero z = true ∧ z.cells.size = (E.td t).size := by
  have hk := Env.tdok h
  unfold TDok at hk
  split at hk
  · rename_i u i hu hi
    simp only [Bool.and_eq_true, beq_iff_eq] at hk
    obtain ⟨⟨⟨h1, h2⟩, h3⟩, h4⟩ := hk
    split at h4
    · rename_i z hz
      simp only [Bool.and_eq_true, beq_iff_eq] at h4
      exact ⟨u, i, z, hu, hi, h1, h2, h3, hz, h4.1, h4.2⟩
    · simp at h4
  · simp at hk

theorem Env.und_slice {e : Nat} (h : (E.td t).kind = .slice e) : E.P.underlying t = some (.slice e) := by
  obtain ⟨u, _, _, hu, _, hk, _⟩ := Env.facts (E := E) (t := t) (by rw [h]; simp)
  rw [h] at hk; cases u <;> simp [kindOK] at hk; rw [hu, hk]
theorem Env.und_array {k e : Nat} (h : (E.td t).kind = .array k e) : E.P.underlying t = some (.array k e) := by
  obtain ⟨u, _, _, hu, _, hk, _⟩ := Env.facts (E := E) (t := t) (by rw [h]; simp)
  rw [h] at hk; cases u <;> simp [kindOK] at hk; rw [hu, hk.1, hk.2]
theorem Env.und_int {k : IntKind} (h : (E.td t).kind = .int k) : E.P.underlying t = some (.int k) := by
  obtain ⟨u, _, _, hu, _, hk, _⟩ := Env.facts (E := E) (t := t) (by rw [h]; simp)
  rw [h] at hk; cases u <;> simp [kindOK] at hk; rw [hu, hk]
theorem Env.und_bool (h : (E.td t).kind = .bool) : E.P.underlying t = some .bool := by
  obtain ⟨u, _, _, hu, _, hk, _⟩ := Env.facts (E := E) (t := t) (by rw [h]; simp)
  rw [h] at hk; cases u <;> simp [kindOK] at hk; rw [hu]
theorem Env.und_string (h : (E.td t).kind = .string) : E.P.underlying t = some .string := by
  obtain ⟨u, _, _, hu, _, hk, _⟩ := Env.facts (E := E) (t := t) (by rw [h]; simp)
  rw [h] at hk; cases u <;> simp [kindOK] at hk; rw [hu]
theorem Env.und_pointer {e : Nat} (h : (E.td t).kind = .pointer e) : E.P.underlying t = some (.pointer e) := by
  obtain ⟨u, _, _, hu, _, hk, _⟩ := Env.facts (E := E) (t := t) (by rw [h]; simp)
  rw [h] at hk; cases u <;> simp [kindOK] at hk; rw [hu, hk]
theorem Env.und_map {k e : Nat} (h : (E.td t).kind = .map k e) : E.P.underlying t = some (.map k e) := by
  obtain ⟨u, _, _, hu, _, hk, _⟩ := Env.facts (E := E) (t := t) (by rw [h]; simp)
  rw [h] at hk; cases u <;> simp [kindOK] at hk; rw [hu, hk.1, hk.2]
theorem Env.und_struct {fs : List (Nat × Nat)} (h : (E.td t).kind = .struct fs) : ∃ fields : Array Field, E.P.underlying t = some (.struct fields) ∧ fields.toList.map (fun f => (f.offset, f.type)) = fs := by
  obtain ⟨u, _, _, hu, _, hk, _⟩ := Env.facts (E := E) (t := t) (by rw [h]; simp)
  rw [h] at hk; cases u <;> simp [kindOK] at hk; exact ⟨_, hu, hk⟩

def TK.isAgg : TK → Bool
  | .struct _ | .array .. => true
  | _ => false

theorem Env.run_isAgg (h : (E.td t).kind ≠ .other) (w : World) : (isAgg t).run E.P w = .ok (E.td t).kind.isAgg w := by
  obtain ⟨u, _, _, hu, _, hk, _⟩ := Env.facts h
  unfold isAgg
  rw [Sem.run_bind, run_underlying hu]
  revert hk
  generalize (E.td t).kind = k
  intro hk
  cases k <;> cases u <;> simp_all [kindOK, TK.isAgg]
theorem Env.run_sizeOf (h : (E.td t).kind ≠ .other) (w : World) : (sizeOf t).run E.P w = .ok (E.td t).size w := by
  obtain ⟨_, i, _, _, hi, _, hs, _⟩ := Env.facts h
  simp [sizeOf, typeInfo, hi, hs]
end
end Go.Proofs.YtfbjoamdkieamaaGreat.AM
end

section
set_option linter.unusedSimpArgs false
set_option linter.unusedVariables false
namespace Go.Proofs.YtfbjoamdkieamaaGreat.AM
open Go

def Wf (r : Option Nat) : Fence := { fn := fun _ => True, depth := none, alive := false, round := r }

def avOf (v : Value) : AV :=
  match v with
  | .int k n => .int k n
  | .bool b => .bool b
  | .slice none 0 0 => .list true 0 []
  | v => .raw v

theorem R_avOf (m : Mem) (v : Value) : R m (avOf v) v := by
  unfold avOf
  split
  · rfl
  · rfl
  · exact R_nil m true 0
  · rfl

def ev (T : Nat → AV) : Operand → AV
  | .tmp t => T t
  | .const v => avOf v
  | .global g => .raw (.pointer (some ⟨g, 0, none⟩))
  | .func f => .fn (.func f) [] []

theorem R_func (m : Mem) (f : FuncId) : R m (.fn (.func f) [] []) (.func (.func f) #[] #[]) := ⟨[], [], rfl, rfl, rfl⟩

theorem R_ev {m : Mem} {T : Nat → AV} {a : Act} {X : Operand} (h : ∀ t, X = .tmp t → R m (T t) (a.tmps.getD t undef)) : R m (ev T X) (a.eval X) := by
  cases X with
  | tmp t => exact h t rfl
  | const v => exact R_avOf m v
  | global g => rfl
  | func f => exact R_func m f

/-- What one operation does, at temporaries T and objects H: it reads the objects of rd, leaves those of post, and gives v. -/
structure OpL (E : Env) (o : Oper) (T : Nat → AV) (H : Nat → HO) (rd : List Nat) (post : List (Nat × HO)) (v : AV) : Prop where
  run : ∀ (r : Option Nat) (n : Nat) (m : Mem) (a : Act) (w : World) (r0 : Nat → Option Obj) (w0 : World) (mu : Nat → Prop) (H' : Nat → HO) (next : Act → World → Prop) (Q : Exit → Act → World → Prop),
    (∀ X ∈ o.op.operands.toList, R m (ev T X) (a.eval X)) → MemOK r0 w0 mu m H' w → (∀ i ∈ rd, H' i = H i) →
    (∀ m' u w', m.le m' → MemOK r0 w0 mu m' (updL H' post) w' → R m' v u → next (a.put o.dst u) w') →
    o.wpIn (Wf r) n E.P a w next Q

section
variable {E : Env} {o : Oper} {T : Nat → AV} {a : Act} {w w' : World} {P : Program} {r : Option Nat} {n : Nat} {next : Act → World → Prop} {Q : Exit → Act → World → Prop}

theorem wpIn_value {u : Value} (hnd : ∀ c, o.op ≠ .defer c) (hr : (execOp a.eval o).run P w = .ok (.value u) w') (hn : next (a.put o.dst u) w') : o.wpIn (Wf r) n P a w next Q := by
  refine ⟨fun _ _ => trivial, ?_⟩
  rw [Oper.semAt_eq _ _ _ hnd, hr]
  exact hn
theorem wpIn_skip' (hnd : ∀ c, o.op ≠ .defer c) (hr : (execOp a.eval o).run P w = .ok .skip w') (hn : next (a.put o.dst undef) w') : o.wpIn (Wf r) n P a w next Q := by
  refine ⟨fun _ _ => trivial, ?_⟩
  rw [Oper.semAt_eq _ _ _ hnd, hr]
  exact hn

theorem OpL.quiet {v : AV} {H : Nat → HO} (rd : List Nat) (hnd : ∀ c, o.op ≠ .defer c)
    (h : ∀ (m : Mem) (a : Act) (w : World) (r0 : Nat → Option Obj) (w0 : World) (mu : Nat → Prop) (H' : Nat → HO), (∀ X ∈ o.op.operands.toList, R m (ev T X) (a.eval X)) → MemOK r0 w0 mu m H' w → (∀ i ∈ rd, H' i = H i) →
      ∃ u, (execOp a.eval o).run E.P w = .ok (.value u) w ∧ R m v u) : OpL E o T H rd [] v := by
  refine ⟨fun r n m a w r0 w0 mu H' next Q hT hM hp hn => ?_⟩
  obtain ⟨u, hr, hu⟩ := h m a w r0 w0 mu H' hT hM hp
  exact wpIn_value hnd hr (hn m u w (Mem.le.refl m) hM hu)

/-- Nothing of the memory is asked. -/
theorem OpL.pure {v : AV} {H : Nat → HO} (hnd : ∀ c, o.op ≠ .defer c)
    (h : ∀ (m : Mem) (a : Act) (w : World), (∀ X ∈ o.op.operands.toList, R m (ev T X) (a.eval X)) → ∃ u, (execOp a.eval o).run E.P w = .ok (.value u) w ∧ R m v u) : OpL E o T H [] [] v :=
  OpL.quiet [] hnd fun m a w _ _ _ _ hT _ _ => h m a w hT
end

section
variable {E : Env} {T : Nat → AV} {H : Nat → HO} {d : Option Tmp} {ty : TypeId} {pos : String} {af : Array Edge} {g : Option (Nat × Bool)}

theorem OpL.move {X : Operand} : OpL E ⟨d, .move X, ty, pos, af, g⟩ T H [] [] (ev T X) :=
  OpL.pure (by simp) fun m a w hT => ⟨a.eval X, rfl, hT X (by simp [Op.operands])⟩
theorem OpL.assign {X : Operand} : OpL E ⟨d, .assign X, ty, pos, af, g⟩ T H [] [] (ev T X) :=
  OpL.pure (by simp) fun m a w hT => ⟨a.eval X, rfl, hT X (by simp [Op.operands])⟩
theorem OpL.pick_t {C X Y : Operand} (hc : ev T C = .bool true) : OpL E ⟨d, .pick C X Y, ty, pos, af, g⟩ T H [] [] (ev T X) :=
  OpL.pure (by simp) fun m a w hT => ⟨a.eval X, by
    have h1 : a.eval C = .bool true := by have := hT C (by simp [Op.operands]); rw [hc] at this; exact this
    simp [execOp, h1, asBool], hT X (by simp [Op.operands])⟩
theorem OpL.pick_f {C X Y : Operand} (hc : ev T C = .bool false) : OpL E ⟨d, .pick C X Y, ty, pos, af, g⟩ T H [] [] (ev T Y) :=
  OpL.pure (by simp) fun m a w hT => ⟨a.eval Y, by
    have h1 : a.eval C = .bool false := by have := hT C (by simp [Op.operands]); rw [hc] at this; exact this
    simp [execOp, h1, asBool], hT Y (by simp [Op.operands])⟩
theorem OpL.pick_b {C X Y : Operand} {c x y : Bool} (hc : ev T C = .bool c) (hx : ev T X = .bool x) (hy : ev T Y = .bool y) : OpL E ⟨d, .pick C X Y, ty, pos, af, g⟩ T H [] [] (.bool (bif c then x else y)) :=
  OpL.pure (by simp) fun m a w hT => by
    have h1 : a.eval C = .bool c := by have := hT C (by simp [Op.operands]); rw [hc] at this; exact this
    have h2 : a.eval X = .bool x := by have := hT X (by simp [Op.operands]); rw [hx] at this; exact this
    have h3 : a.eval Y = .bool y := by have := hT Y (by simp [Op.operands]); rw [hy] at this; exact this
    refine ⟨.bool (bif c then x else y), ?_, rfl⟩
    cases c <;> simp [execOp, h1, h2, h3, asBool]

def nilOK : AV → Bool
  | .ref .. | .ptr .. => true
  | .fn (.func _) .. => true
  | _ => false
theorem OpL.nilCheck {X : Operand} (h : nilOK (ev T X) = true) : OpL E ⟨d, .nilCheck X, ty, pos, af, g⟩ T H [] [] (ev T X) :=
  OpL.pure (by simp) fun m a w hT => by
    have h1 := hT X (by simp [Op.operands])
    refine ⟨a.eval X, ?_, h1⟩
    unfold nilOK at h
    split at h
    · rename_i x o he; rw [he] at h1; obtain ⟨b, base, cs, T', fr, u, h2, _⟩ := h1; simp [execOp, h2]
    · rename_i id w i o he; rw [he] at h1; obtain ⟨L, _, h2⟩ := h1; simp [execOp, h2]
    · rename_i f first cap he; rw [he] at h1; obtain ⟨fs, cs, h2, _⟩ := h1; simp [execOp, h2]
    · simp at h

theorem OpL.makeFunc {f : Fn} {first cap : Array Operand} {fl cl : List Operand} (hf : first = fl.toArray) (hcp : cap = cl.toArray) :
    OpL E ⟨d, .makeFunc f first cap, ty, pos, af, g⟩ T H [] [] (.fn f (fl.map (ev T)) (cl.map (ev T))) := by
  subst hf hcp
  refine OpL.pure (by simp) fun m a w hT => ⟨.func f (fl.map a.eval).toArray (cl.map a.eval).toArray, by simp [execOp, Instr.makeFunc], ?_⟩
  have key : ∀ l : List Operand, (∀ X ∈ l, R m (ev T X) (a.eval X)) → RS m (l.map (ev T)) (l.map a.eval) := by
    intro l
    induction l with
    | nil => intro _; rfl
    | cons x l ih => intro h; exact ⟨_, _, rfl, h x (by simp), ih fun X hX => h X (by simp [hX])⟩
  exact ⟨_, _, rfl, key fl fun X hX => hT X (by simp [Op.operands, hX]), key cl fun X hX => hT X (by simp [Op.operands, hX])⟩

/-! ### Numbers -/
def arith (k : IntKind) : BinOp → Int → Int → Option Int
  | .add, x, y => some (k.wrap (x + y))
  | .sub, x, y => some (k.wrap (x - y))
  | .mul, x, y => some (k.wrap (x * y))
  | _, _, _ => none
def cmp : BinOp → Int → Int → Option Bool
  | .eql, x, y => some (decide (x = y))
  | .neq, x, y => some (decide (x ≠ y))
  | .lss, x, y => some (decide (x < y))
  | .leq, x, y => some (decide (x ≤ y))
  | .gtr, x, y => some (decide (y < x))
  | .geq, x, y => some (decide (y ≤ x))
  | _, _, _ => none

theorem OpL.arith {op : BinOp} {t yt : TypeId} {X Y : Operand} {k : IntKind} {x y z : Int} (hx : ev T X = .int k x) (hy : ev T Y = .int k y) (hz : arith k op x y = some z) :
    OpL E ⟨d, .binOp op t X Y yt, ty, pos, af, g⟩ T H [] [] (.int k z) :=
  OpL.pure (by simp) fun m a w hT => by
    have h1 : a.eval X = .int k x := by have := hT X (by simp [Op.operands]); rw [hx] at this; exact this
    have h2 : a.eval Y = .int k y := by have := hT Y (by simp [Op.operands]); rw [hy] at this; exact this
    refine ⟨.int k z, ?_, rfl⟩
    cases op <;> simp only [AM.arith, Option.some.injEq, reduceCtorEq] at hz <;> subst hz <;> simp [execOp, h1, h2, eqGuard, binOp, Op.intArith]
theorem OpL.cmp {op : BinOp} {t yt : TypeId} {X Y : Operand} {k : IntKind} {x y : Int} {z : Bool} (hx : ev T X = .int k x) (hy : ev T Y = .int k y) (hz : cmp op x y = some z) :
    OpL E ⟨d, .binOp op t X Y yt, ty, pos, af, g⟩ T H [] [] (.bool z) :=
  OpL.pure (by simp) fun m a w hT => by
    have h1 : a.eval X = .int k x := by have := hT X (by simp [Op.operands]); rw [hx] at this; exact this
    have h2 : a.eval Y = .int k y := by have := hT Y (by simp [Op.operands]); rw [hy] at this; exact this
    refine ⟨.bool z, ?_, rfl⟩
    cases op <;> simp only [AM.cmp, Option.some.injEq, reduceCtorEq] at hz <;> subst hz <;> simp [execOp, h1, h2, eqGuard, binOp, Op.intCmp] <;> (by_cases hxy : x = y <;> simp [hxy])
theorem OpL.quo {t yt : TypeId} {X Y : Operand} {k : IntKind} {x y : Int} (hx : ev T X = .int k x) (hy : ev T Y = .int k y) (h0 : y ≠ 0) :
    OpL E ⟨d, .binOp .quo t X Y yt, ty, pos, af, g⟩ T H [] [] (.int k (k.wrap (x.tdiv y))) :=
  OpL.pure (by simp) fun m a w hT => by
    have h1 : a.eval X = .int k x := by have := hT X (by simp [Op.operands]); rw [hx] at this; exact this
    have h2 : a.eval Y = .int k y := by have := hT Y (by simp [Op.operands]); rw [hy] at this; exact this
    exact ⟨_, by simp [execOp, h1, h2, eqGuard, binOp, Op.intDiv, h0], rfl⟩
theorem OpL.rem {t yt : TypeId} {X Y : Operand} {k : IntKind} {x y : Int} (hx : ev T X = .int k x) (hy : ev T Y = .int k y) (h0 : y ≠ 0) :
    OpL E ⟨d, .binOp .rem t X Y yt, ty, pos, af, g⟩ T H [] [] (.int k (x.tmod y)) :=
  OpL.pure (by simp) fun m a w hT => by
    have h1 : a.eval X = .int k x := by have := hT X (by simp [Op.operands]); rw [hx] at this; exact this
    have h2 : a.eval Y = .int k y := by have := hT Y (by simp [Op.operands]); rw [hy] at this; exact this
    exact ⟨_, by simp [execOp, h1, h2, eqGuard, binOp, Op.intDiv, h0], rfl⟩
theorem OpL.not {t : TypeId} {X : Operand} {x : Bool} (hx : ev T X = .bool x) : OpL E ⟨d, .unOp .not t X, ty, pos, af, g⟩ T H [] [] (.bool (!x)) :=
  OpL.pure (by simp) fun m a w hT => by
    have h1 : a.eval X = .bool x := by have := hT X (by simp [Op.operands]); rw [hx] at this; exact this
    exact ⟨_, by simp [execOp, h1, Op.unary], rfl⟩
theorem OpL.neg {t : TypeId} {X : Operand} {k : IntKind} {x : Int} (hx : ev T X = .int k x) : OpL E ⟨d, .unOp .neg t X, ty, pos, af, g⟩ T H [] [] (.int k (k.wrap (0 - x))) :=
  OpL.pure (by simp) fun m a w hT => by
    have h1 : a.eval X = .int k x := by have := hT X (by simp [Op.operands]); rw [hx] at this; exact this
    exact ⟨_, by simp [execOp, h1, Op.unary, Op.intArith], rfl⟩
theorem run_equalIn_bool {P : Program} {t : TypeId} (h : P.underlying t = some .bool) (dp : Nat) (x y : Bool) (w : World) : (Op.equalIn (dp + 1) t (.bool x) (.bool y)).run P w = .ok (x == y) w := by
  simp only [Op.equalIn, Sem.run_bind, run_underlying h, Result.andThen_ok, Sem.run_pure]
theorem OpL.beq {t yt : TypeId} {X Y : Operand} {x y : Bool} (hk : (E.td t).kind = .bool) (hx : ev T X = .bool x) (hy : ev T Y = .bool y) :
    OpL E ⟨d, .binOp .eql t X Y yt, ty, pos, af, g⟩ T H [] [] (.bool (x == y)) :=
  OpL.pure (by simp) fun m a w hT => by
    have h1 : a.eval X = .bool x := by have := hT X (by simp [Op.operands]); rw [hx] at this; exact this
    have h2 : a.eval Y = .bool y := by have := hT Y (by simp [Op.operands]); rw [hy] at this; exact this
    have h3 : (Op.equal t (.bool x) (.bool y)).run E.P w = .ok (x == y) w := run_equalIn_bool (Env.und_bool hk) 9999 x y w
    refine ⟨.bool (x == y), ?_, rfl⟩
    simp only [execOp, h1, h2, eqGuard, binOp, Sem.run_bind, Sem.run_pure]
    simp
    rw [h3]
    rfl
theorem OpL.bne {t yt : TypeId} {X Y : Operand} {x y : Bool} (hk : (E.td t).kind = .bool) (hx : ev T X = .bool x) (hy : ev T Y = .bool y) :
    OpL E ⟨d, .binOp .neq t X Y yt, ty, pos, af, g⟩ T H [] [] (.bool (!(x == y))) :=
  OpL.pure (by simp) fun m a w hT => by
    have h1 : a.eval X = .bool x := by have := hT X (by simp [Op.operands]); rw [hx] at this; exact this
    have h2 : a.eval Y = .bool y := by have := hT Y (by simp [Op.operands]); rw [hy] at this; exact this
    have h3 : (Op.equal t (.bool x) (.bool y)).run E.P w = .ok (x == y) w := run_equalIn_bool (Env.und_bool hk) 9999 x y w
    refine ⟨.bool (!(x == y)), ?_, rfl⟩
    simp only [execOp, h1, h2, eqGuard, binOp, Sem.run_bind, Sem.run_pure]
    simp
    rw [h3]
    rfl

theorem RS_get {m : Mem} : ∀ {xs : List AV} {vs : List Value} (_ : RS m xs vs) (i : Nat) (_ : i < xs.length), ∃ v, vs[i]? = some v ∧ R m (xs.getD i .junk) v
  | [], _, _, i, hi => by simp at hi
  | x :: xs, _, ⟨v, vs', rfl, h1, h2⟩, 0, _ => ⟨v, rfl, h1⟩
  | x :: xs, _, ⟨v, vs', rfl, h1, h2⟩, i + 1, hi => by
    obtain ⟨u, h3, h4⟩ := RS_get h2 i (by simpa using hi)
    exact ⟨u, by simpa using h3, by simpa using h4⟩
theorem RS_length {m : Mem} : ∀ {xs : List AV} {vs : List Value} (_ : RS m xs vs), vs.length = xs.length
  | [], _, h => by rw [show _ = [] from h]; rfl
  | x :: xs, _, ⟨v, vs', rfl, h1, h2⟩ => by simp [RS_length h2]

theorem OpL.extract {X : Operand} {vs : List AV} {i : Nat} (hx : ev T X = .tuple vs) (hi : Nat.ble (i + 1) vs.length = true) : OpL E ⟨d, .extract X i, ty, pos, af, g⟩ T H [] [] (vs.getD i .junk) :=
  OpL.pure (by simp) fun m a w hT => by
    have h1 := hT X (by simp [Op.operands])
    rw [hx] at h1
    obtain ⟨us, h1, h2⟩ := h1
    obtain ⟨u, h3, h4⟩ := RS_get h2 i (Nat.le_of_ble_eq_true hi)
    exact ⟨u, by simp [execOp, h1, Instr.extract, h3], h4⟩
end
end Go.Proofs.YtfbjoamdkieamaaGreat.AM
end

section
set_option linter.unusedSimpArgs false
set_option linter.unusedVariables false
namespace Go.Proofs.YtfbjoamdkieamaaGreat.AM
open Go

/-! ### Cells -/
def AV.plain : AV → Bool
  | .junk => false
  | .raw v => v.oneCell'
  | .tuple _ => false
  | _ => true

theorem cells_one {v : Value} (h : v.oneCell' = true) : v.cells = #[v] := by cases v <;> simp_all [Value.oneCell', Value.cells]

theorem R_cells {m : Mem} {x : AV} {u : Value} (hp : x.plain = true) (h : R m x u) : RS m x.cells u.cells.toList := by
  cases x with
  | agg cs => obtain ⟨vs, rfl, h2⟩ := h; simpa [Value.cells, AV.cells] using h2
  | junk => simp [AV.plain] at hp
  | tuple _ => simp [AV.plain] at hp
  | raw v =>
    have hu : u = v := h
    subst hu
    rw [cells_one hp]
    exact ⟨u, [], rfl, rfl, rfl⟩
  | int k n => have hu : u = _ := h; subst hu; exact ⟨_, [], rfl, rfl, rfl⟩
  | bool b => have hu : u = _ := h; subst hu; exact ⟨_, [], rfl, rfl, rfl⟩
  | list c w l => have h0 := h; obtain ⟨a, cap, rfl, _⟩ := h; exact ⟨_, [], rfl, h0, rfl⟩
  | ref x o => have h0 := h; obtain ⟨b, base, cs, T, fr, u, rfl, _⟩ := h; exact ⟨_, [], rfl, h0, rfl⟩
  | ptr id w i o => have h0 := h; obtain ⟨L, _, rfl⟩ := h; exact ⟨_, [], rfl, h0, rfl⟩
  | sl c id w off len =>
    have h0 := h
    obtain ⟨ol, _, h2, _⟩ := h
    have hc : u.cells = #[u] := by
      cases ol with
      | none => obtain ⟨rfl, _⟩ := h2; rfl
      | some L => obtain ⟨ad, rfl, _⟩ := h2; rfl
    rw [hc]
    exact ⟨u, [], rfl, h0, rfl⟩
  | fn f a b => have h0 := h; obtain ⟨fs, cs, rfl, _⟩ := h; exact ⟨_, [], rfl, h0, rfl⟩
  | omap id => have h0 := h; obtain ⟨L, _, rfl⟩ := h; exact ⟨_, [], rfl, h0, rfl⟩
  | yld id => have h0 := h; obtain ⟨L, _, rfl⟩ := h; exact ⟨_, [], rfl, h0, rfl⟩

theorem RS_len {m : Mem} {xs : List AV} {vs : List Value} (h : RS m xs vs) : vs.length = xs.length := RS_length h

theorem RS_drop {m : Mem} : ∀ {xs : List AV} {vs : List Value} (_ : RS m xs vs) (i : Nat), RS m (xs.drop i) (vs.drop i)
  | [], _, h, i => by rw [show _ = [] from h]; simp; rfl
  | x :: xs, _, ⟨v, vs', rfl, h1, h2⟩, 0 => ⟨v, vs', rfl, h1, h2⟩
  | x :: xs, _, ⟨v, vs', rfl, h1, h2⟩, i + 1 => by simpa using RS_drop h2 i
theorem RS_take {m : Mem} : ∀ {xs : List AV} {vs : List Value} (_ : RS m xs vs) (i : Nat), RS m (xs.take i) (vs.take i)
  | [], _, h, i => by rw [show _ = [] from h]; simp; rfl
  | x :: xs, _, ⟨v, vs', rfl, h1, h2⟩, 0 => rfl
  | x :: xs, _, ⟨v, vs', rfl, h1, h2⟩, i + 1 => by simpa using ⟨v, _, rfl, h1, RS_take h2 i⟩
theorem RS_append {m : Mem} : ∀ {xs ys : List AV} {vs us : List Value} (_ : RS m xs vs) (_ : RS m ys us), RS m (xs ++ ys) (vs ++ us)
  | [], ys, _, us, h, h' => by rw [show _ = [] from h]; simpa using h'
  | x :: xs, ys, _, us, ⟨v, vs', rfl, h1, h2⟩, h' => ⟨v, vs' ++ us, rfl, h1, RS_append h2 h'⟩

/-! ### Loads -/
section
variable {E : Env} {t : TypeId} {P : Program}

theorem run_load_scalar (hk : (E.td t).kind ≠ .other) (ha : (E.td t).kind.isAgg = false) {w : World} {b off : Nat} {cs : Array Value} {T : TypeId} {fr : Nat × Nat}
    (hb : w.heap[b]? = some (.cells cs T fr)) {v : Value} (hv : cs[off]? = some v) : (Instr.loadAt t (.pointer (some ⟨b, off, none⟩))).run E.P w = .ok v w := by
  have hc : w.cell? ⟨b, off, none⟩ = some v := by simp [World.cell?, hb, hv]
  simp [Instr.loadAt, Instr.sureAddr, loadVar, Env.run_isAgg hk, ha, hc]

theorem run_load_agg (hk : (E.td t).kind ≠ .other) (ha : (E.td t).kind.isAgg = true) {w : World} {b off : Nat} {cs : Array Value} {T : TypeId} {fr : Nat × Nat}
    (hb : w.heap[b]? = some (.cells cs T fr)) (vs : List Value) (hl : vs.length = (E.td t).size) (hv : ∀ j, j < vs.length → cs[off + j]? = vs[j]?) :
    (Instr.loadAt t (.pointer (some ⟨b, off, none⟩))).run E.P w = .ok (.agg vs.toArray) w := by
  have hcells : ∀ j v, vs[j]? = some v → w.cell? ((⟨b, off, none⟩ : Addr).add j) = some v := by
    intro j v hj
    have hlt : j < vs.length := by
      rcases Nat.lt_or_ge j vs.length with h | h
      · exact h
      · rw [List.getElem?_eq_none h] at hj; cases hj
    have hadd : (⟨b, off, none⟩ : Addr).add j = ⟨b, off + j, none⟩ := by unfold Addr.add; split <;> simp_all
    rw [hadd]
    simp [World.cell?, hb, hv j hlt, hj]
  have h1 := run_loadCells_list (P := E.P) w ⟨b, off, none⟩ vs hcells
  rw [hl] at h1
  simp [Instr.loadAt, Instr.sureAddr, loadVar, Env.run_isAgg hk, ha, Env.run_sizeOf hk, h1]
end

/-- What a load of a type at cell o of x gives: the one cell; the whole; a part. -/
inductive LoadV (d : TD) (x : AV) (o : Nat) : AV → Prop where
  | cell (hk : d.kind ≠ .other) (ha : d.kind.isAgg = false) (hp : x.plain = true) (ho : o < x.cells.length) : LoadV d x o (x.cells.getD o .junk)
  | whole (hk : d.kind ≠ .other) (ha : d.kind.isAgg = true) (cs : List AV) (hx : x = .agg cs) (hl : cs.length = d.size) (ho : o = 0) : LoadV d x o x
  | part (hk : d.kind ≠ .other) (ha : d.kind.isAgg = true) (hp : x.plain = true) (ho : o + d.size ≤ x.cells.length) : LoadV d x o (.agg ((x.cells.drop o).take d.size))

theorem LoadV.run {E : Env} {t : TypeId} {m : Mem} {w : World} {x v : AV} {o b base : Nat} {cs : Array Value} {T : TypeId} {fr : Nat × Nat} {u : Value} {wd : Nat}
    (hL : LoadV (E.td t) x o v) (hb : w.heap[b]? = some (.cells cs T fr)) (hu : R m x u) (hc : CellsAt cs base wd u) :
    ∃ z, (Instr.loadAt t (.pointer (some ⟨b, base + o, none⟩))).run E.P w = .ok z w ∧ R m v z := by
  obtain ⟨hsz, hc⟩ := hc
  cases hL with
  | cell hk ha hp ho =>
    have hR := R_cells hp hu
    obtain ⟨z, h1, h2⟩ := RS_get hR o ho
    have hlt : o < wd := by rw [← hsz, ← Array.length_toList, RS_len hR]; exact ho
    have h3 : cs[base + o]? = some z := by rw [hc o hlt]; simpa using h1
    exact ⟨z, run_load_scalar hk ha hb h3, h2⟩
  | whole hk ha ys hx hl ho =>
    subst hx ho
    obtain ⟨vs, rfl, h2⟩ := id hu
    have hlen := RS_len h2
    have hw : wd = vs.length := by rw [← hsz]; simp [Value.cells]
    refine ⟨_, run_load_agg hk ha hb vs (by rw [hlen, hl]) (fun j hj => ?_), hu⟩
    rw [Nat.add_zero, hc j (by omega)]
    simp [Value.cells]
  | part hk ha hp ho =>
    have hR := R_cells hp hu
    have hlen := RS_len hR
    have hRs := RS_take (RS_drop hR o) (E.td t).size
    refine ⟨_, run_load_agg hk ha hb _ ?_ (fun j hj => ?_), ⟨_, rfl, hRs⟩⟩
    · simp; simp at hlen; omega
    · have hj' : j < (E.td t).size := by simp at hj; omega
      have hlt : o + j < wd := by
        rw [← hsz, ← Array.length_toList, hlen]; omega
      rw [Nat.add_assoc, hc (o + j) hlt]
      rw [List.getElem?_take_of_lt hj', List.getElem?_drop, Array.getElem?_toList]

/-- The element i of a row. -/
theorem RRow_get {m : Mem} {arr : Array Value} {w : Nat} : ∀ {l : List AV} {o : Nat} (_ : RRow m arr w o l) (i : Nat) (_ : i < l.length), ∃ u, R m (l.getD i .junk) u ∧ CellsAt arr (o + i * w) w u
  | [], _, _, i, hi => by simp at hi
  | x :: l, o, ⟨⟨u, h1, h2⟩, h3⟩, 0, _ => ⟨u, h1, by simpa using h2⟩
  | x :: l, o, ⟨⟨u, h1, h2⟩, h3⟩, i + 1, hi => by
    obtain ⟨u', h4, h5⟩ := RRow_get h3 i (by simpa using hi)
    refine ⟨u', by simpa using h4, ?_⟩
    have : o + (i + 1) * w = o + w + i * w := by rw [Nat.succ_mul]; omega
    rw [this]; exact h5

theorem addr_add (b o n : Nat) : (⟨b, o, none⟩ : Addr).add n = ⟨b, o + n, none⟩ := by unfold Addr.add; split <;> simp_all

section
variable {E : Env} {T : Nat → AV} {H : Nat → HO} {d : Option Tmp} {ty : TypeId} {pos : String} {af : Array Edge} {g : Option (Nat × Bool)}

theorem OpL.load_ref {t : TypeId} {X : Operand} {x v : AV} {o : Nat} (hx : ev T X = .ref x o) (hv : LoadV (E.td t) x o v) : OpL E ⟨d, .load t X, ty, pos, af, g⟩ T H [] [] v :=
  OpL.quiet [] (by simp) fun m a w r0 w0 mu H' hT hM _ => by
    have h1 := hT X (by simp [Op.operands])
    rw [hx] at h1
    obtain ⟨b, base, cs, T', fr, u, h1, h2, h3, h4⟩ := h1
    obtain ⟨z, h5, h6⟩ := hv.run (hM.ro _ _ h2) h3 h4
    exact ⟨z, by simp [execOp, h1, h5], R.mono m.noat_le _ _ h6⟩

theorem OpL.load_ptr {t tt wd id w i o : Nat} {X : Operand} {v : AV} {l : List AV} (hx : ev T X = .ptr id w i o) (hH : H id = .arr tt wd l) (hw : wd = w) (hi : i < l.length)
    (hv : LoadV (E.td t) (l.getD i .junk) o v) : OpL E ⟨d, .load t X, ty, pos, af, g⟩ T H [id] [] v :=
  OpL.quiet [id] (by simp) fun m a w' r0 w0 mu H' hT hM hr => by
    have h1 := hT X (by simp [Op.operands])
    rw [hx] at h1
    obtain ⟨L, h1, h2⟩ := h1
    have hob := hM.obj id
    rw [hr id (by simp), hH] at hob
    obtain ⟨ol, h3, _, h5⟩ := hob
    rw [h1] at h3
    obtain rfl := (Option.some.inj h3)
    obtain ⟨cs, hb, hs, hle, hrow⟩ := h5 L rfl
    subst hw
    obtain ⟨u, h6, h7⟩ := RRow_get hrow i hi
    rw [Nat.zero_add] at h7
    obtain ⟨z, h8, h9⟩ := hv.run hb h6 h7
    exact ⟨z, by simp [execOp, h2, h8], h9⟩

/-! ### Addresses -/
theorem run_fieldPlace {P : Program} {fd : Field} {w : World} {sz : Nat} (hs : (sizeOf fd.type).run P w = .ok sz w) (h0 : sz ≠ 0) (b o : Nat) :
    (fieldPlace ⟨b, o, none⟩ fd).run P w = .ok ⟨b, o + fd.offset, none⟩ w := by
  simp [fieldPlace, hs, h0, addr_add]

theorem field_at {fields : Array Field} {fs : List (Nat × Nat)} (h : fields.toList.map (fun f => (f.offset, f.type)) = fs) {i off ft : Nat} (hi : fs[i]? = some (off, ft)) :
    ∃ fd, fields[i]? = some fd ∧ fd.offset = off ∧ fd.type = ft := by
  subst h
  rw [List.getElem?_map] at hi
  cases hf : fields.toList[i]? with
  | none => rw [hf] at hi; simp at hi
  | some fd =>
    rw [hf] at hi
    simp at hi
    exact ⟨fd, by simpa using hf, hi.1, hi.2⟩

theorem OpL.field_ref {s : TypeId} {X : Operand} {x : AV} {o i off ft : Nat} {fs : List (Nat × Nat)} (hx : ev T X = .ref x o) (hk : (E.td s).kind = .struct fs) (hf : fs[i]? = some (off, ft))
    (h1 : (E.td ft).kind ≠ .other) (h0 : (E.td ft).size ≠ 0) : OpL E ⟨d, .fieldAddr s X i, ty, pos, af, g⟩ T H [] [] (.ref x (o + off)) :=
  OpL.pure (by simp) fun m a w hT => by
    have h2 := hT X (by simp [Op.operands])
    rw [hx] at h2
    obtain ⟨b, base, cs, T', fr, u, h2, h3⟩ := h2
    obtain ⟨fields, hu, hm⟩ := Env.und_struct hk
    obtain ⟨fd, hfd, rfl, rfl⟩ := field_at hm hf
    refine ⟨.pointer (some ⟨b, base + (o + fd.offset), none⟩), ?_, ⟨b, base, cs, T', fr, u, rfl, h3⟩⟩
    simp [execOp, h2, Instr.fieldAt, run_underlying hu, hfd, Instr.sureAddr, run_fieldPlace (Env.run_sizeOf h1 w) h0, Nat.add_assoc]
theorem OpL.field_ptr {s : TypeId} {X : Operand} {id w k o i off ft : Nat} {fs : List (Nat × Nat)} (hx : ev T X = .ptr id w k o) (hk : (E.td s).kind = .struct fs) (hf : fs[i]? = some (off, ft))
    (h1 : (E.td ft).kind ≠ .other) (h0 : (E.td ft).size ≠ 0) : OpL E ⟨d, .fieldAddr s X i, ty, pos, af, g⟩ T H [] [] (.ptr id w k (o + off)) :=
  OpL.pure (by simp) fun m a w' hT => by
    have h2 := hT X (by simp [Op.operands])
    rw [hx] at h2
    obtain ⟨L, h2, h3⟩ := h2
    obtain ⟨fields, hu, hm⟩ := Env.und_struct hk
    obtain ⟨fd, hfd, rfl, rfl⟩ := field_at hm hf
    refine ⟨.pointer (some ⟨L.blk, k * w + (o + fd.offset), none⟩), ?_, ⟨L, h2, rfl⟩⟩
    simp [execOp, h3, Instr.fieldAt, run_underlying hu, hfd, Instr.sureAddr, run_fieldPlace (Env.run_sizeOf h1 w') h0, Nat.add_assoc]

/-- An index into a slice that is read alone. -/
theorem OpL.index_list {t : TypeId} {X I : Operand} {c : Bool} {w e : Nat} {l : List AV} {k : IntKind} {n : Int} {i : Nat} (hx : ev T X = .list c w l) (hI : ev T I = .int k n) (hn : n = (i : Int))
    (hk : (E.td t).kind = .slice e) (he : (E.td e).kind ≠ .other) (hw : (E.td e).size = w) (hi : i < l.length) :
    OpL E ⟨d, .indexAddr t X I, ty, pos, af, g⟩ T H [] [] (.ref (l.getD i .junk) 0) :=
  OpL.pure (by simp) fun m a w' hT => by
    subst hn
    have h2 := hT X (by simp [Op.operands])
    rw [hx] at h2
    obtain ⟨ad, cap, h2, h3, h4, h5, h6⟩ := h2
    have h7 : a.eval I = .int k ((i : Int)) := by have := hT I (by simp [Op.operands]); rw [hI] at this; exact this
    obtain ⟨b, o, cs, T', fr, rfl, h8, h9⟩ := h6 (by intro h; rw [h] at hi; simp at hi)
    obtain ⟨u, h10, h11⟩ := RRow_get h9 i hi
    refine ⟨.pointer (some ⟨b, o + i * w, none⟩), ?_, ⟨b, o + i * w, cs, T', fr, u, rfl, h8, h10, ⟨rfl, fun j hj => h11.2 j (by rw [← h11.1]; exact hj)⟩⟩⟩
    have hlt : (0 : Int) ≤ (i : Int) ∧ (i : Int) < (l.length : Int) := ⟨by simp, by simpa using hi⟩
    simp only [execOp, h2, h7, Instr.indexAt, asIntOf, run_underlying (Env.und_slice hk), Sem.run_bind, Sem.run_pure, Result.andThen_ok, hlt, and_self, if_true, Env.run_sizeOf he w', hw]
    simp [addr_add, hi]

/-- An index into a slice of an object of one's own. -/
theorem OpL.index_sl {t : TypeId} {X I : Operand} {c : Bool} {id w off len e : Nat} {k : IntKind} {n : Int} {i : Nat} (hx : ev T X = .sl c id w off len) (hI : ev T I = .int k n) (hn : n = (i : Int))
    (hk : (E.td t).kind = .slice e) (he : (E.td e).kind ≠ .other) (hw : (E.td e).size = w) (hi : i < len) :
    OpL E ⟨d, .indexAddr t X I, ty, pos, af, g⟩ T H [] [] (.ptr id w (off + i) 0) :=
  OpL.pure (by simp) fun m a w' hT => by
    subst hn
    have h2 := hT X (by simp [Op.operands])
    rw [hx] at h2
    obtain ⟨ol, h2, h3, _⟩ := h2
    have h7 : a.eval I = .int k ((i : Int)) := by have := hT I (by simp [Op.operands]); rw [hI] at this; exact this
    cases ol with
    | none => obtain ⟨_, h4, _⟩ := h3; omega
    | some L =>
      obtain ⟨ad, h4, h5, h6, h8⟩ := h3
      have h9 := h8 (by omega)
      subst h9
      refine ⟨.pointer (some ⟨L.blk, (off + i) * w + 0, none⟩), ?_, ⟨L, h2, rfl⟩⟩
      have hlt : (0 : Int) ≤ (i : Int) ∧ (i : Int) < (len : Int) := ⟨by simp, by simpa using hi⟩
      simp only [execOp, h4, h7, Instr.indexAt, asIntOf, run_underlying (Env.und_slice hk), Sem.run_bind, Sem.run_pure, Result.andThen_ok, hlt, and_self, if_true, Env.run_sizeOf he w', hw]
      simp [addr_add, hi, Nat.add_mul]

/-- An index into an array behind an address. -/
theorem OpL.index_arr_ptr {t : TypeId} {X I : Operand} {id w j o len e : Nat} {k : IntKind} {n : Int} {i : Nat} (hx : ev T X = .ptr id w j o) (hI : ev T I = .int k n) (hn : n = (i : Int))
    (hk : (E.td t).kind = .array len e) (he : (E.td e).kind ≠ .other) (hi : i < len) :
    OpL E ⟨d, .indexAddr t X I, ty, pos, af, g⟩ T H [] [] (.ptr id w j (o + i * (E.td e).size)) :=
  OpL.pure (by simp) fun m a w' hT => by
    subst hn
    have h2 := hT X (by simp [Op.operands])
    rw [hx] at h2
    obtain ⟨L, h2, h3⟩ := h2
    have h7 : a.eval I = .int k ((i : Int)) := by have := hT I (by simp [Op.operands]); rw [hI] at this; exact this
    refine ⟨.pointer (some ⟨L.blk, j * w + (o + i * (E.td e).size), none⟩), ?_, ⟨L, h2, rfl⟩⟩
    have hlt : (0 : Int) ≤ (i : Int) ∧ (i : Int) < (len : Int) := ⟨by simp, by simpa using hi⟩
    simp only [execOp, h3, h7, Instr.indexAt, Instr.sureAddr, asIntOf, run_underlying (Env.und_array hk), Sem.run_bind, Sem.run_pure, Result.andThen_ok, hlt, and_self, if_true, Env.run_sizeOf he w']
    simp [addr_add, hi, Nat.add_assoc, run_underlying (Env.und_array hk), Env.run_sizeOf he w']
theorem OpL.index_arr_ref {t : TypeId} {X I : Operand} {x : AV} {o len e : Nat} {k : IntKind} {n : Int} {i : Nat} (hx : ev T X = .ref x o) (hI : ev T I = .int k n) (hn : n = (i : Int))
    (hk : (E.td t).kind = .array len e) (he : (E.td e).kind ≠ .other) (hi : i < len) :
    OpL E ⟨d, .indexAddr t X I, ty, pos, af, g⟩ T H [] [] (.ref x (o + i * (E.td e).size)) :=
  OpL.pure (by simp) fun m a w' hT => by
    subst hn
    have h2 := hT X (by simp [Op.operands])
    rw [hx] at h2
    obtain ⟨b, base, cs, T', fr, u, h2, h3⟩ := h2
    have h7 : a.eval I = .int k ((i : Int)) := by have := hT I (by simp [Op.operands]); rw [hI] at this; exact this
    refine ⟨.pointer (some ⟨b, base + (o + i * (E.td e).size), none⟩), ?_, ⟨b, base, cs, T', fr, u, rfl, h3⟩⟩
    have hlt : (0 : Int) ≤ (i : Int) ∧ (i : Int) < (len : Int) := ⟨by simp, by simpa using hi⟩
    simp only [execOp, h2, h7, Instr.indexAt, Instr.sureAddr, asIntOf, run_underlying (Env.und_array hk), Sem.run_bind, Sem.run_pure, Result.andThen_ok, hlt, and_self, if_true, Env.run_sizeOf he w']
    simp [addr_add, hi, Nat.add_assoc, run_underlying (Env.und_array hk), Env.run_sizeOf he w']
end
end Go.Proofs.YtfbjoamdkieamaaGreat.AM
end

section
set_option linter.unusedSimpArgs false
set_option linter.unusedVariables false
namespace Go.Proofs.YtfbjoamdkieamaaGreat.AM
open Go

def Mem.bind (m : Mem) (id : Nat) (L : Option Loc) : Mem := { m with at_ := fun i => if i = id then some L else m.at_ i }

theorem Mem.le_bind {m : Mem} {id : Nat} {L : Option Loc} (h : m.at_ id = none) : m.le (m.bind id L) :=
  ⟨fun _ _ h => h, fun i x hx => by
    by_cases hi : i = id
    · subst hi; rw [h] at hx; cases hx
    · simp [Mem.bind, hi, hx]⟩

theorem RRow_iff {m : Mem} {arr : Array Value} {w : Nat} : ∀ {l : List AV} {o : Nat}, RRow m arr w o l ↔ ∀ i, i < l.length → ∃ u, R m (l.getD i .junk) u ∧ CellsAt arr (o + i * w) w u
  | [], o => ⟨fun _ i hi => by simp at hi, fun _ => trivial⟩
  | x :: l, o => ⟨fun h i hi => RRow_get h i hi, fun h => by
      refine ⟨by simpa using h 0 (by simp), RRow_iff.2 fun i hi => ?_⟩
      obtain ⟨u, h1, h2⟩ := h (i + 1) (by simpa using hi)
      refine ⟨u, by simpa using h1, ?_⟩
      have e : o + (i + 1) * w = o + w + i * w := by rw [Nat.succ_mul]; omega
      rw [← e]; exact h2⟩

theorem ArrAt.mono {m m' : Mem} {w w' : World} {t wd : Nat} {l : List AV} {L : Loc} (hm : m.le m') (hb : w'.heap[L.blk]? = w.heap[L.blk]?) : ArrAt m w t wd l L → ArrAt m' w' t wd l L :=
  fun ⟨cs, h1, h2, h3, h4⟩ => ⟨cs, hb.trans h1, h2, h3, RRow.mono hm _ _ _ _ h4⟩

theorem HOok.mono {m m' : Mem} {w w' : World} {id : Nat} {o : HO} (hm : m.le m') (hid : m'.at_ id = m.at_ id) (hb : o.live = true → ∀ L, m.at_ id = some (some L) → w'.heap[L.blk]? = w.heap[L.blk]?) : HOok m w id o → HOok m' w' id o := by
  intro h
  cases o with
  | free => exact hid.trans h
  | dead => trivial
  | arr t wd l =>
    obtain ⟨ol, h1, h2, h3⟩ := h
    exact ⟨ol, hid.trans h1, h2, fun L hL => (h3 L hL).mono hm (hb rfl L (by rw [h1, hL]))⟩
  | map es =>
    obtain ⟨L, h1, ents, h2, h3⟩ := h
    exact ⟨L, hid.trans h1, ents, (hb rfl L h1).trans h2, h3.mono hm⟩
  | iter mid n seen =>
    obtain ⟨L, Lm, h1, h2, h3⟩ := h
    exact ⟨L, Lm, hid.trans h1, hm.at_ _ _ h2, (hb rfl L h1).trans h3⟩
  | loop busy nt ps asg body tm =>
    obtain ⟨L, r, h1, h2, h3⟩ := h
    exact ⟨L, r, hid.trans h1, (hb rfl L h1).trans h2, h3.mono hm⟩

section
variable {r0 : Nat → Option Obj} {w0 w : World} {mu : Nat → Prop} {m : Mem} {H : Nat → HO}

theorem block_lt {w : World} {b : Nat} {o : Obj} (h : w.heap[b]? = some o) : b < w.heap.size := (Array.getElem?_eq_some_iff.1 h).1

theorem heap_alloc_old {w : World} {o : Obj} {b : Nat} (h : b < w.heap.size) : (w.alloc o).heap[b]? = w.heap[b]? := by
  show (w.heap.push o)[b]? = _
  rw [Array.getElem?_push, if_neg (Nat.ne_of_lt h)]
theorem heap_alloc_new {w : World} {o : Obj} : (w.alloc o).heap[w.heap.size]? = some o := by
  show (w.heap.push o)[w.heap.size]? = _
  rw [Array.getElem?_push, if_pos rfl]
theorem size_alloc {w : World} {o : Obj} : (w.alloc o).heap.size = w.heap.size + 1 := Array.size_push ..

theorem MemOK.live_blk (hM : MemOK r0 w0 mu m H w) {id : Nat} {L : Loc} (hl : (H id).live = true) (hat : m.at_ id = some (some L)) : L.blk < w.heap.size := by
  have h := hM.obj id
  cases ho : H id with
  | free => rw [ho] at hl; simp [HO.live] at hl
  | dead => rw [ho] at hl; simp [HO.live] at hl
  | arr t wd l =>
    rw [ho] at h
    obtain ⟨ol, h1, _, h3⟩ := h
    rw [hat] at h1
    obtain ⟨cs, h4, _⟩ := h3 L (Option.some.inj h1).symm
    exact block_lt h4
  | map es =>
    rw [ho] at h
    obtain ⟨L', h1, ents, h2, _⟩ := h
    rw [hat] at h1
    obtain rfl := Option.some.inj (Option.some.inj h1)
    exact block_lt h2
  | iter mid n seen =>
    rw [ho] at h
    obtain ⟨L', Lm, h1, _, h2⟩ := h
    rw [hat] at h1
    obtain rfl := Option.some.inj (Option.some.inj h1)
    exact block_lt h2
  | loop busy nt ps asg body tm =>
    rw [ho] at h
    obtain ⟨L', r, h1, h2, _⟩ := h
    rw [hat] at h1
    obtain rfl := Option.some.inj (Option.some.inj h1)
    exact block_lt h2

theorem MemOK.turn (hM : MemOK r0 w0 mu m H w) {m' : Mem} {w' : World} (id0 : Nat) (o' : HO) (τ : Nat → Prop) (hle : m.le m') (hro : m'.ro = m.ro) (hat : ∀ i, i ≠ id0 → m'.at_ i = m.at_ i)
    (hos : w'.os = w.os) (htape : w'.tape = w.tape) (hout : w'.output = w.output) (hsize : w.heap.size ≤ w'.heap.size)
    (keep : ∀ b, b < w.heap.size → ¬ τ b → w'.heap[b]? = w.heap[b]?)
    (hτ : ∀ b, τ b → m.ro b = none ∧ (b < w0.heap.size → mu b) ∧ ∀ i L, i ≠ id0 → (H i).live = true → m.at_ i = some (some L) → L.blk ≠ b)
    (hok : HOok m' w' id0 o')
    (hmine : o'.live = true → ∀ L, m'.at_ id0 = some (some L) → m.ro L.blk = none ∧ (L.blk < w0.heap.size → mu L.blk) ∧ ∀ i L', i ≠ id0 → (H i).live = true → m.at_ i = some (some L') → L'.blk ≠ L.blk) :
    MemOK r0 w0 mu m' (upd H id0 o') w' where
  os := hos.trans hM.os
  tape := htape.trans hM.tape
  output := hout.trans hM.output
  size := Nat.le_trans hM.size hsize
  block i hi hmu := by
    rw [keep i (Nat.lt_of_lt_of_le hi hM.size) (fun h => hmu ((hτ i h).2.1 hi))]
    exact hM.block i hi hmu
  ro b o h := by
    rw [hro] at h
    rw [keep b (block_lt (hM.ro b o h)) (fun h' => by rw [(hτ b h').1] at h; cases h)]
    exact hM.ro b o h
  told b o h := by rw [hro] at h; exact hM.told b o h
  obj i := by
    by_cases hi : i = id0
    · subst hi; rw [upd_same]; exact hok
    · rw [upd_ne _ _ _ _ hi]
      refine HOok.mono hle (hat i hi) (fun hl L hL => ?_) (hM.obj i)
      exact keep _ (hM.live_blk hl hL) (fun h => (hτ _ h).2.2 i L hi hl hL rfl)
  mine i L hl hL := by
    by_cases hi : i = id0
    · subst hi; rw [upd_same] at hl; rw [hro]; exact ⟨(hmine hl L hL).1, (hmine hl L hL).2.1⟩
    · rw [upd_ne _ _ _ _ hi] at hl; rw [hat i hi] at hL; rw [hro]; exact hM.mine i L hl hL
  apart i j L L' hij hl hl' hL hL' := by
    by_cases hi : i = id0
    · subst hi
      have hj : j ≠ i := fun h => hij h.symm
      rw [upd_same] at hl
      rw [upd_ne _ _ _ _ hj] at hl'
      rw [hat j hj] at hL'
      exact fun h => (hmine hl L hL).2.2 j L' hj hl' hL' h.symm
    · rw [upd_ne _ _ _ _ hi] at hl
      rw [hat i hi] at hL
      by_cases hj : j = id0
      · subst hj
        rw [upd_same] at hl'
        exact (hmine hl' L' hL').2.2 i L hi hl hL
      · rw [upd_ne _ _ _ _ hj] at hl'
        rw [hat j hj] at hL'
        exact hM.apart i j L L' hij hl hl' hL hL'

/-- An object is given up. -/
theorem MemOK.kill (hM : MemOK r0 w0 mu m H w) (id : Nat) : MemOK r0 w0 mu m (upd H id .dead) w :=
  hM.turn id .dead (fun _ => False) (Mem.le.refl m) rfl (fun _ _ => rfl) rfl rfl rfl (Nat.le_refl _) (fun _ _ _ => rfl) (fun _ h => h.elim) trivial (fun h => by simp [HO.live] at h)

/-- A draw, or a block that is no object: what is known stays. -/
theorem MemOK.world (hM : MemOK r0 w0 mu m H w) {w' : World} (hos : w'.os = w.os) (htape : w'.tape = w.tape) (hout : w'.output = w.output) (hsize : w.heap.size ≤ w'.heap.size)
    (keep : ∀ b, b < w.heap.size → w'.heap[b]? = w.heap[b]?) : MemOK r0 w0 mu m H w' where
  os := hos.trans hM.os
  tape := htape.trans hM.tape
  output := hout.trans hM.output
  size := Nat.le_trans hM.size hsize
  block i hi hmu := by rw [keep i (Nat.lt_of_lt_of_le hi hM.size)]; exact hM.block i hi hmu
  ro b o h := by rw [keep b (block_lt (hM.ro b o h))]; exact hM.ro b o h
  told := hM.told
  obj i := HOok.mono (Mem.le.refl m) rfl (fun hl L hL => keep _ (hM.live_blk hl hL)) (hM.obj i)
  mine := hM.mine
  apart := hM.apart

theorem MemOK.drew (hM : MemOK r0 w0 mu m H w) : MemOK r0 w0 mu m H w.drew := hM.world rfl rfl rfl (Nat.le_refl _) (fun _ _ => rfl)

theorem RRow_cells {m : Mem} {u : Value} {x : AV} {wd : Nat} (hx : R m x u) (hw : u.cells.size = wd) : RRow m u.cells wd 0 [x] :=
  ⟨⟨u, hx, hw, fun j hj => by rw [Nat.zero_add]⟩, trivial⟩

/-- A new block is a new object. -/
theorem MemOK.new (hM : MemOK r0 w0 mu m H w) {id : Nat} (hf : H id = .free) (t wd cap : Nat) (l : List AV) (cs : Array Value) (hsz : cs.size = cap * wd) (hl : l.length ≤ cap)
    (hrow : RRow m cs wd 0 l) : m.le (m.bind id (some ⟨w.heap.size, cap⟩)) ∧ MemOK r0 w0 mu (m.bind id (some ⟨w.heap.size, cap⟩)) (upd H id (.arr t wd l)) (w.alloc (.cells cs t)) := by
  have hnone : m.at_ id = none := by have := hM.obj id; rw [hf] at this; exact this
  have hle : m.le (m.bind id (some ⟨w.heap.size, cap⟩)) := Mem.le_bind hnone
  refine ⟨hle, hM.turn id (.arr t wd l) (fun _ => False) hle rfl (fun i hi => by simp [Mem.bind, hi]) rfl rfl rfl (by rw [size_alloc]; omega)
    (fun b hb _ => heap_alloc_old hb) (fun _ h => h.elim) ?_ ?_⟩
  · refine ⟨some ⟨w.heap.size, cap⟩, by simp [Mem.bind], fun h => by simp at h, fun L hL => ?_⟩
    cases hL
    exact ⟨cs, heap_alloc_new, hsz, hl, RRow.mono hle _ _ _ _ hrow⟩
  · intro _ L hL
    simp [Mem.bind] at hL
    subst hL
    refine ⟨?_, fun h => absurd hM.size (by simpa using h), fun i L' hi hlv hL' => Nat.ne_of_lt (hM.live_blk hlv hL')⟩
    cases hr : m.ro w.heap.size with
    | none => rfl
    | some o => exact absurd (block_lt (hM.ro _ _ hr)) (Nat.lt_irrefl _)

/-- An object is written. -/
theorem MemOK.set (hM : MemOK r0 w0 mu m H w) {id t wd : Nat} {l l' : List AV} {L : Loc} (hH : H id = .arr t wd l) (hat : m.at_ id = some (some L)) (cs' : Array Value) (hsz : cs'.size = L.cap * wd)
    (hl : l'.length ≤ L.cap) (hrow : RRow m cs' wd 0 l') : MemOK r0 w0 mu m (upd H id (.arr t wd l')) (w.setRow L.blk cs') := by
  have hlive : (H id).live = true := by rw [hH]; rfl
  have hob := hM.obj id
  rw [hH] at hob
  obtain ⟨ol, h1, h2, h3⟩ := hob
  rw [hat] at h1
  obtain ⟨cs, hb, _⟩ := h3 L (Option.some.inj h1).symm
  have hmine := hM.mine id L hlive hat
  refine hM.turn id (.arr t wd l') (fun b => b = L.blk) (Mem.le.refl m) rfl (fun _ _ => rfl) rfl rfl rfl (by simp) (fun b _ hne => setRow_other w L.blk b cs' hne) ?_ ?_ ?_
  · rintro b rfl
    exact ⟨hmine.1, hmine.2, fun i L' hi hlv hL' => hM.apart i id L' L hi hlv hlive hL' hat⟩
  · exact ⟨some L, hat, fun h => by simp at h, fun L' hL' => by cases hL'; exact ⟨cs', setRow_heap w L.blk cs cs' t (0, 0) hb, hsz, hl, hrow⟩⟩
  · intro _ L' hL'
    rw [hat] at hL'
    obtain rfl := Option.some.inj (Option.some.inj hL')
    exact ⟨hmine.1, hmine.2, fun i L'' hi hlv hL'' => hM.apart i id L'' L hi hlv hlive hL'' hat⟩
end
end Go.Proofs.YtfbjoamdkieamaaGreat.AM
end

section
set_option linter.unusedSimpArgs false
set_option linter.unusedVariables false
namespace Go.Proofs.YtfbjoamdkieamaaGreat.AM
open Go

/-- The object that the slot of an operation's result names. -/
def idOf (d : Option Tmp) : Nat := d.getD 0

def AV.scal : AV → Bool
  | .junk | .agg _ | .tuple _ => false
  | .raw v => v.oneCell'
  | _ => true
def AV.solid (x : AV) : Bool := x.plain && x.cells.all AV.scal

theorem R_scal {m : Mem} {x : AV} {u : Value} (hx : x.scal = true) (h : R m x u) : u.oneCell' = true := by
  cases x with
  | junk => simp [AV.scal] at hx
  | agg _ => simp [AV.scal] at hx
  | tuple _ => simp [AV.scal] at hx
  | raw v => have e : u = v := h; subst e; exact hx
  | int k n => have e : u = _ := h; subst e; rfl
  | bool b => have e : u = _ := h; subst e; rfl
  | list c w l => obtain ⟨a, cap, rfl, _⟩ := h; rfl
  | ref x o => obtain ⟨b, base, cs, T, fr, u, rfl, _⟩ := h; rfl
  | ptr id w i o => obtain ⟨L, _, rfl⟩ := h; rfl
  | sl c id w off len =>
    obtain ⟨ol, _, h2, _⟩ := h
    cases ol with
    | none => obtain ⟨rfl, _⟩ := h2; rfl
    | some L => obtain ⟨ad, rfl, _⟩ := h2; rfl
  | fn f a b => obtain ⟨fs, cs, rfl, _⟩ := h; rfl
  | omap id => obtain ⟨L, _, rfl⟩ := h; rfl
  | yld id => obtain ⟨L, _, rfl⟩ := h; rfl

theorem RS_scal {m : Mem} : ∀ {xs : List AV} {vs : List Value} (_ : RS m xs vs) (_ : xs.all AV.scal = true), ∀ u ∈ vs, u.oneCell' = true
  | [], _, h, _, u, hu => by rw [show _ = [] from h] at hu; simp at hu
  | x :: xs, _, ⟨v, vs', rfl, h1, h2⟩, ha, u, hu => by
    simp only [List.all_cons, Bool.and_eq_true] at ha
    rcases List.mem_cons.1 hu with rfl | hu
    · exact R_scal ha.1 h1
    · exact RS_scal h2 ha.2 u hu

theorem R_solid {m : Mem} {x : AV} {u : Value} (hx : x.solid = true) (h : R m x u) : (∀ z ∈ u.cells.toList, z.oneCell' = true) ∧ u.cells.size = x.cells.length := by
  simp only [AV.solid, Bool.and_eq_true] at hx
  have hR := R_cells hx.1 h
  exact ⟨RS_scal hR hx.2, by rw [← Array.length_toList, RS_len hR]⟩

section
variable {E : Env} {T : Nat → AV} {H : Nat → HO} {d : Option Tmp} {ty : TypeId} {pos : String} {af : Array Edge} {g : Option (Nat × Bool)}

theorem run_newVar {P : Program} (w : World) (t : TypeId) (v : Value) : (newVar t v).run P w = .ok ⟨w.heap.size, 0, none⟩ (w.alloc (.cells v.cells t)) := rfl

theorem OpL.alloc {t : TypeId} {td : TD} (ht : E.td t = td) (hk : td.kind ≠ .other) (hf : H (idOf d) = .free) :
    OpL E ⟨d, .alloc t, ty, pos, af, g⟩ T H [idOf d] [(idOf d, .arr t td.size [td.zero])] (.ptr (idOf d) td.size 0 0) := by
  subst ht
  refine ⟨fun r n m a w r0 w0 mu H' next Q hT hM hr hn => ?_⟩
  obtain ⟨u, i, z, hu, hi, _, hs, _, hz, hz0, hzs⟩ := Env.facts hk
  have hf' : H' (idOf d) = .free := by rw [hr _ (by simp)]; exact hf
  have hrow : RRow m z.cells (E.td t).size 0 [(E.td t).zero] := RRow_cells (R_zero m _ _ hz0) hzs
  obtain ⟨hle, hM'⟩ := hM.new hf' t (E.td t).size 1 [(E.td t).zero] z.cells (by omega) (by simp) hrow
  refine wpIn_value (by simp) (u := .pointer (some ⟨w.heap.size, 0, none⟩)) (w' := w.alloc (.cells z.cells t)) ?_ (hn _ _ _ hle hM' ?_)
  · simp [execOp, Instr.alloc, zeroValue, typeInfo, hi, hz, run_newVar]
  · exact ⟨⟨w.heap.size, 1⟩, by simp [Mem.bind], by simp⟩

theorem OpL.box {t : TypeId} {X : Operand} {x : AV} {wd : Nat} (hx : ev T X = x) (hs : x.plain = true) (hw : x.cells.length = wd) (hf : H (idOf d) = .free) :
    OpL E ⟨d, .box t X, ty, pos, af, g⟩ T H [idOf d] [(idOf d, .arr t wd [x])] (.ptr (idOf d) wd 0 0) := by
  refine ⟨fun r n m a w r0 w0 mu H' next Q hT hM hr hn => ?_⟩
  have h1 := hT X (by simp [Op.operands])
  rw [hx] at h1
  have hf' : H' (idOf d) = .free := by rw [hr _ (by simp)]; exact hf
  have hsz : (a.eval X).cells.size = wd := by rw [← Array.length_toList, RS_len (R_cells hs h1), hw]
  obtain ⟨hle, hM'⟩ := hM.new hf' t wd 1 [x] (a.eval X).cells (by omega) (by simp) (RRow_cells h1 hsz)
  refine wpIn_value (by simp) (u := .pointer (some ⟨w.heap.size, 0, none⟩)) (w' := w.alloc (.cells (a.eval X).cells t)) ?_ (hn _ _ _ hle hM' ?_)
  · simp [execOp, Instr.box, run_newVar]
  · exact ⟨⟨w.heap.size, 1⟩, by simp [Mem.bind], by simp⟩

/-! ### A store -/
/-- x with the cells of y from its cell o on. -/
def AV.put (x : AV) (o : Nat) (y : AV) : AV := .agg (x.cells.take o ++ y.cells ++ x.cells.drop (o + y.cells.length))

inductive StoreV (wd : Nat) (x : AV) (o : Nat) (y : AV) : AV → Prop where
  | whole (ho : o = 0) (hw : y.cells.length = wd) : StoreV wd x o y y
  | part (cs : List AV) (hx : x = .agg cs) (ho : o + y.cells.length ≤ cs.length) : StoreV wd x o y (x.put o y)

theorem run_storeAt {t : TypeId} (hk : (E.td t).kind ≠ .other) {w : World} {b off : Nat} {cs : Array Value} {T' : TypeId} (hb : w.heap[b]? = some (.cells cs T' (0, 0))) {v : Value}
    (hs : v.cells.size = (E.td t).size) (hle : off + v.cells.size ≤ cs.size) (h1 : ∀ z ∈ v.cells.toList, z.oneCell' = true) :
    (Instr.storeAt t (.pointer (some ⟨b, off, none⟩)) v).run E.P w = .ok () (w.setRow b (cs.toList.take off ++ v.cells.toList ++ cs.toList.drop (off + v.cells.size)).toArray) := by
  have h2 := run_storeCells_at E.P b off T' v.cells.toList 0 cs w hb (by simpa using hle) h1
  simp only [Nat.add_zero, Array.length_toList] at h2
  simp [Instr.storeAt, Instr.sureAddr, storeVar, Env.run_sizeOf hk, hs]
  rw [hs] at h2
  simpa using h2

theorem getElem?_splice (l vs : List Value) (off j : Nat) (hle : off + vs.length ≤ l.length) :
    (l.take off ++ vs ++ l.drop (off + vs.length))[j]? = if off ≤ j ∧ j < off + vs.length then vs[j - off]? else l[j]? := by
  have ht : (l.take off).length = off := by simp; omega
  rcases Nat.lt_or_ge j off with h | h
  · rw [if_neg (by omega), List.append_assoc, List.getElem?_append_left (by omega), List.getElem?_take_of_lt h]
  · rcases Nat.lt_or_ge j (off + vs.length) with h' | h'
    · rw [if_pos ⟨h, h'⟩, List.append_assoc, List.getElem?_append_right (by omega), ht, List.getElem?_append_left (by omega)]
    · rw [if_neg (by omega), List.getElem?_append_right (by simp [ht]; omega)]
      simp only [List.length_append, ht]
      rw [List.getElem?_drop]
      congr 1
      omega

theorem RRow_put {m : Mem} {cs : Array Value} {wd : Nat} {l : List AV} {i o : Nat} {x' y : AV} {v : Value} (hrow : RRow m cs wd 0 l) (hi : i < l.length) (hy : R m y v) (hys : y.solid = true)
    (hx : StoreV wd (l.getD i .junk) o y x') (hfit : l.length * wd ≤ cs.size) :
    i * wd + o + v.cells.size ≤ cs.size ∧ RRow m (cs.toList.take (i * wd + o) ++ v.cells.toList ++ cs.toList.drop (i * wd + o + v.cells.size)).toArray wd 0 (l.set i x') := by
  obtain ⟨_, hvs⟩ := R_solid hys hy
  obtain ⟨u, h1, h2, h3⟩ := RRow_get hrow i hi
  rw [Nat.zero_add] at h3
  have hiw : (i + 1) * wd ≤ l.length * wd := Nat.mul_le_mul_right _ hi
  rw [Nat.succ_mul] at hiw
  have hin : o + v.cells.size ≤ wd := by
    cases hx with
    | whole ho hw => omega
    | part ys hx ho =>
      rw [hx] at h1
      obtain ⟨us, rfl, h5⟩ := h1
      have := RS_len h5
      simp [Value.cells] at h2
      omega
  have hlen : i * wd + o + v.cells.toList.length ≤ cs.toList.length := by simp; omega
  refine ⟨by omega, RRow_iff.2 fun k hk => ?_⟩
  rw [List.length_set] at hk
  rw [Nat.zero_add]
  have hg : ∀ j, ((cs.toList.take (i * wd + o) ++ v.cells.toList ++ cs.toList.drop (i * wd + o + v.cells.size)).toArray)[j]? = if i * wd + o ≤ j ∧ j < i * wd + o + v.cells.size then v.cells[j - (i * wd + o)]? else cs[j]? := by
    intro j
    have := getElem?_splice cs.toList v.cells.toList (i * wd + o) j hlen
    simpa using this
  by_cases hki : k = i
  · subst hki
    have hget : (l.set k x').getD k .junk = x' := by simp [List.getD, hk]
    rw [hget]
    cases hx with
    | whole ho hw =>
      subst ho
      refine ⟨v, hy, by omega, fun j hj => ?_⟩
      rw [hg, if_pos (by omega)]
      congr 1
      omega
    | part ys hx ho =>
      rw [hx] at h1
      obtain ⟨us, rfl, h5⟩ := h1
      have hl5 := RS_len h5
      have hplain : y.plain = true := by simp only [AV.solid, Bool.and_eq_true] at hys; exact hys.1
      have hRy := R_cells hplain hy
      have hput : R m ((l.getD k .junk).put o y) (.agg (us.take o ++ v.cells.toList ++ us.drop (o + y.cells.length)).toArray) := by
        rw [hx]
        exact ⟨_, rfl, RS_append (RS_append (RS_take h5 o) hRy) (RS_drop h5 _)⟩
      refine ⟨_, hput, ?_, fun j hj => ?_⟩
      · have hul : us.length = wd := by simpa [Value.cells] using h2
        show (us.take o ++ v.cells.toList ++ us.drop (o + y.cells.length)).toArray.size = wd
        simp only [List.size_toArray, List.length_append, List.length_take, List.length_drop, Array.length_toList]
        omega
      · have hul : us.length = wd := by simpa [Value.cells] using h2
        have hs2 := getElem?_splice us v.cells.toList o j (by simp; omega)
        simp only [Array.length_toList] at hs2
        have h3j := h3 j hj
        simp only [Value.cells] at h3j
        rw [hg]
        show _ = ((us.take o ++ v.cells.toList ++ us.drop (o + y.cells.length)).toArray)[j]?
        rw [← hvs]
        have : ((us.take o ++ v.cells.toList ++ us.drop (o + v.cells.size)).toArray)[j]? = (us.take o ++ v.cells.toList ++ us.drop (o + v.cells.size))[j]? := by simp
        rw [this, hs2]
        by_cases hc : o ≤ j ∧ j < o + v.cells.size
        · rw [if_pos (by omega), if_pos hc]
          rw [show k * wd + j - (k * wd + o) = j - o from by omega]
          simp
        · rw [if_neg (by omega), if_neg hc, h3j]
          simp
  · have hget : (l.set i x').getD k .junk = l.getD k .junk := by simp [List.getD, List.getElem?_set, Ne.symm hki]
    rw [hget]
    obtain ⟨u', h6, h7, h8⟩ := RRow_get hrow k hk
    rw [Nat.zero_add] at h8
    refine ⟨u', h6, h7, fun j hj => ?_⟩
    rw [hg, if_neg ?_, h8 j hj]
    intro hc
    rcases Nat.lt_or_ge k i with hlt | hge
    · have : (k + 1) * wd ≤ i * wd := Nat.mul_le_mul_right _ hlt
      rw [Nat.succ_mul] at this
      omega
    · have : (i + 1) * wd ≤ k * wd := Nat.mul_le_mul_right _ (by omega)
      rw [Nat.succ_mul] at this
      omega

theorem OpL.store {t tt wd id w i o : Nat} {X Y : Operand} {y x' : AV} {l : List AV} (hx : ev T X = .ptr id w i o) (hy : ev T Y = y) (hH : H id = .arr tt wd l) (hw : wd = w) (hi : i < l.length)
    (hys : y.solid = true) (hk : (E.td t).kind ≠ .other) (hsz : y.cells.length = (E.td t).size) (hv : StoreV wd (l.getD i .junk) o y x') :
    OpL E ⟨d, .store t X Y, ty, pos, af, g⟩ T H [id] [(id, .arr tt wd (l.set i x'))] .junk := by
  subst hw
  refine ⟨fun r n m a w' r0 w0 mu H' next Q hT hM hr hn => ?_⟩
  have h1 := hT X (by simp [Op.operands])
  rw [hx] at h1
  have h2 := hT Y (by simp [Op.operands])
  rw [hy] at h2
  obtain ⟨L, h1, h3⟩ := h1
  have hH' : H' id = .arr tt wd l := by rw [hr id (by simp)]; exact hH
  have hob := hM.obj id
  rw [hH'] at hob
  obtain ⟨ol, h4, _, h5⟩ := hob
  rw [h1] at h4
  obtain ⟨cs, hb, hs, hle, hrow⟩ := h5 L (Option.some.inj h4).symm
  obtain ⟨hone, hvs⟩ := R_solid hys h2
  have hfit : l.length * wd ≤ cs.size := by rw [hs]; exact Nat.mul_le_mul_right _ hle
  obtain ⟨h6, h7⟩ := RRow_put hrow hi h2 hys hv hfit
  have hM' := hM.set hH' h1 _ (by simp; omega) (by simpa using hle) h7
  refine wpIn_skip' (by simp) ?_ (hn m undef _ (Mem.le.refl m) hM' trivial)
  simp only [execOp, h3]
  rw [Sem.run_bind, run_storeAt hk hb (by rw [hvs, hsz]) h6 hone]
  rfl

/-! ### len -/
theorem OpL.len_list {X : Operand} {t e : TypeId} {c : Bool} {w : Nat} {l : List AV} (hx : ev T X = .list c w l) (hk : (E.td t).kind = .slice e) :
    OpL E ⟨d, .call { callee := .builtin .len, args := #[X], argTypes := #[t] }, ty, pos, af, g⟩ T H [] [] (.int .i64 (l.length : Int)) :=
  OpL.pure (by simp) fun m a w' hT => by
    have h1 := hT X (by simp [Op.operands, Call.operands])
    rw [hx] at h1
    obtain ⟨ad, cap, h1, _⟩ := h1
    exact ⟨_, by simp [execOp, resolve, h1, invoke, builtin, Builtin.len_, goInt, run_underlying (Env.und_slice hk)], rfl⟩
theorem OpL.len_sl {X : Operand} {t e : TypeId} {c : Bool} {id w off len : Nat} (hx : ev T X = .sl c id w off len) (hk : (E.td t).kind = .slice e) :
    OpL E ⟨d, .call { callee := .builtin .len, args := #[X], argTypes := #[t] }, ty, pos, af, g⟩ T H [] [] (.int .i64 (len : Int)) :=
  OpL.pure (by simp) fun m a w' hT => by
    have h1 := hT X (by simp [Op.operands, Call.operands])
    rw [hx] at h1
    obtain ⟨ol, _, h1, _⟩ := h1
    have h2 : ∃ ad cap, a.eval X = .slice ad len cap := by
      cases ol with
      | none => obtain ⟨h1, rfl, _⟩ := h1; exact ⟨_, _, h1⟩
      | some L => obtain ⟨ad, h1, _⟩ := h1; exact ⟨_, _, h1⟩
    obtain ⟨ad, cap, h2⟩ := h2
    exact ⟨_, by simp [execOp, resolve, h2, invoke, builtin, Builtin.len_, goInt, run_underlying (Env.und_slice hk)], rfl⟩
end
end Go.Proofs.YtfbjoamdkieamaaGreat.AM
end

section
set_option linter.unusedSimpArgs false
set_option linter.unusedVariables false
namespace Go.Proofs.YtfbjoamdkieamaaGreat.AM
open Go

/-- A bound of a slice expression. -/
inductive Bd (T : Nat → AV) : Option Operand → Nat → Nat → Prop where
  | dflt (n : Nat) : Bd T none n n
  | val {X : Operand} {k : IntKind} {n : Int} {i : Nat} (df : Nat) (h : ev T X = .int k n) (hn : n = (i : Int)) : Bd T (some X) df i

/-- The same, of values. -/
def BdV (o : Option Value) (df i : Nat) : Prop := (o = none ∧ i = df) ∨ ∃ k, o = some (.int k ((i : Int)))

theorem Bd.toV {m : Mem} {T : Nat → AV} {a : Act} {o : Option Operand} {df i : Nat} (h : Bd T o df i) (hT : ∀ X, o = some X → R m (ev T X) (a.eval X)) : BdV (o.map a.eval) df i := by
  cases h with
  | dflt => exact .inl ⟨rfl, rfl⟩
  | val df h hn =>
    rename_i X k n
    have h1 := hT X rfl
    rw [h] at h1
    subst hn
    exact .inr ⟨k, by rw [Option.map_some]; exact congrArg some h1⟩

theorem run_bound {P : Program} {w : World} {k : IntKind} {i y : Nat} {c : BoundsCode} (h : i ≤ y) : (Instr.sliceBound (.int k ((i : Int))) y c).run P w = .ok i w := by
  have h' : (0 : Int) ≤ (i : Int) ∧ (i : Int) ≤ (y : Int) := ⟨by simp, by simpa using h⟩
  simp only [Instr.sliceBound, asIntOf, Sem.run_bind, Sem.run_pure, Result.andThen_ok, h', and_self, if_true]
  simp

theorem run_bounds {P : Program} {w : World} {s : Bool} {len cap a b : Nat} {lo hi : Option Value} (hlo : BdV lo 0 a) (hhi : BdV hi len b) (h1 : a ≤ b) (h2 : b ≤ cap) (h3 : len ≤ cap) :
    (Instr.sliceBounds s len cap lo hi none).run P w = .ok (a, b, cap) w := by
  rcases hlo with ⟨rfl, rfl⟩ | ⟨k, rfl⟩ <;> rcases hhi with ⟨rfl, rfl⟩ | ⟨k', rfl⟩ <;>
    simp only [Instr.sliceBounds, Sem.run_bind, Sem.run_pure, Result.andThen_ok, run_bound h1, run_bound h2, Option.isSome_none, Bool.false_eq_true, if_false]
theorem run_bounds_max {P : Program} {w : World} {s : Bool} {len cap a b mx : Nat} {lo hi m : Option Value} (hlo : BdV lo 0 a) (hhi : BdV hi len b) (hs : hi.isSome = true) (hm : BdV m cap mx) (hms : m.isSome = true) (h1 : a ≤ b) (h2 : b ≤ mx) (h3 : mx ≤ cap) :
    (Instr.sliceBounds s len cap lo hi m).run P w = .ok (a, b, mx) w := by
  rcases hm with ⟨rfl, rfl⟩ | ⟨k2, rfl⟩
  · simp at hms
  rcases hhi with ⟨rfl, rfl⟩ | ⟨k', rfl⟩
  · simp at hs
  rcases hlo with ⟨rfl, rfl⟩ | ⟨k, rfl⟩ <;>
    simp only [Instr.sliceBounds, Sem.run_bind, Sem.run_pure, Result.andThen_ok, run_bound h1, run_bound h2, run_bound h3, Option.isSome_some, if_true]

section
variable {E : Env} {T : Nat → AV} {H : Nat → HO} {d : Option Tmp} {ty : TypeId} {pos : String} {af : Array Edge} {g : Option (Nat × Bool)}

theorem run_sliceAt_bd {t e w : Nat} (hk : (E.td t).kind = .slice e) (he : (E.td e).kind ≠ .other) (hw : (E.td e).size = w) {wd : World} {base : Option Addr} {len cap a b mx : Nat} {lo hi m : Option Value}
    (h : (Instr.sliceBounds true len cap lo hi m).run E.P wd = .ok (a, b, mx) wd) :
    (Instr.sliceAt t (.slice base len cap) lo hi m).run E.P wd = .ok (.slice (if mx = a then base else base.map (·.add (a * w))) (b - a) (mx - a)) wd := by
  simp [Instr.sliceAt, Instr.slice, run_underlying (Env.und_slice hk), h, Env.run_sizeOf he, hw]

theorem RRow_drop {m : Mem} {arr : Array Value} {w o : Nat} {l : List AV} (h : RRow m arr w o l) (a : Nat) : RRow m arr w (o + a * w) (l.drop a) := by
  rw [RRow_iff] at *
  intro i hi
  simp at hi
  obtain ⟨u, h1, h2⟩ := h (a + i) (by omega)
  refine ⟨u, by simpa [List.getD] using h1, ?_⟩
  rw [show o + a * w + i * w = o + (a + i) * w from by rw [Nat.add_mul]; omega]
  exact h2
theorem RRow_take {m : Mem} {arr : Array Value} {w o : Nat} {l : List AV} (h : RRow m arr w o l) (a : Nat) : RRow m arr w o (l.take a) := by
  rw [RRow_iff] at *
  intro i hi
  rw [List.length_take] at hi
  obtain ⟨u, h1, h2⟩ := h i (by omega)
  exact ⟨u, by simpa [List.getD, List.getElem?_take_of_lt (show i < a by omega)] using h1, h2⟩

/-- What a slice of a slice that is read alone reads as. -/
theorem R_sub {m : Mem} {c : Bool} {w : Nat} {l : List AV} {base : Option Addr} {cap a b mx : Nat} (h : R m (.list c w l) (.slice base l.length cap)) (hab : a ≤ b) (hb : b ≤ l.length) (hbm : b ≤ mx) (hmx : mx ≤ cap) :
    R m (.list false w ((l.drop a).take (b - a))) (.slice (if mx = a then base else base.map (·.add (a * w))) (b - a) (mx - a)) := by
  obtain ⟨ad, cap', heq, h1, h2, h3, h4⟩ := h
  injection heq with e1 _ e2
  subst e1 e2
  have hlen : ((l.drop a).take (b - a)).length = b - a := by simp; omega
  refine ⟨_, mx - a, by rw [hlen], by omega, by omega, fun h => by simp at h, fun hne => ?_⟩
  have hlt : a < b := by
    rcases Nat.lt_or_ge a b with h | h
    · exact h
    · exact absurd (List.eq_nil_of_length_eq_zero (by rw [hlen]; omega)) hne
  obtain ⟨bk, o, cs, T, fr, rfl, h5, h6⟩ := h4 (by intro h; rw [h] at hb; simp at hb; omega)
  rw [if_neg (by omega)]
  exact ⟨bk, o + a * w, cs, T, fr, by simp [addr_add], h5, RRow_take (RRow_drop h6 a) _⟩

theorem OpL.slice_list {t e w : Nat} {X : Operand} {lo hi : Option Operand} {c : Bool} {l : List AV} {a b : Nat} (hx : ev T X = .list c w l) (hk : (E.td t).kind = .slice e) (he : (E.td e).kind ≠ .other)
    (hw : (E.td e).size = w) (hlo : Bd T lo 0 a) (hhi : Bd T hi l.length b) (hab : a ≤ b) (hb : b ≤ l.length) :
    OpL E ⟨d, .slice t X lo hi none, ty, pos, af, g⟩ T H [] [] (.list false w ((l.drop a).take (b - a))) :=
  OpL.pure (by simp) fun m ac wd hT => by
    have h1 := hT X (by simp [Op.operands])
    rw [hx] at h1
    have h0 := h1
    obtain ⟨ad, cap, h1, h2, h3, h4, h5⟩ := h1
    have hlo' := hlo.toV (m := m) (a := ac) fun Y hY => hT Y (by simp [Op.operands, hY])
    have hhi' := hhi.toV (m := m) (a := ac) fun Y hY => hT Y (by simp [Op.operands, hY])
    have hr := run_sliceAt_bd hk he hw (base := ad) (run_bounds (P := E.P) (w := wd) (s := true) hlo' hhi' hab (Nat.le_trans hb h2) h2)
    rw [h1] at h0
    exact ⟨_, by simp [execOp, h1, hr], R_sub h0 hab hb (by omega) (Nat.le_refl _)⟩
theorem OpL.slice_from {t e w : Nat} {X : Operand} {lo : Option Operand} {c : Bool} {l : List AV} {a : Nat} (hx : ev T X = .list c w l) (hk : (E.td t).kind = .slice e) (he : (E.td e).kind ≠ .other)
    (hw : (E.td e).size = w) (hlo : Bd T lo 0 a) (ha : a ≤ l.length) : OpL E ⟨d, .slice t X lo none none, ty, pos, af, g⟩ T H [] [] (.list false w (l.drop a)) := by
  have h := OpL.slice_list (d := d) (ty := ty) (pos := pos) (af := af) (g := g) (H := H) (hi := none) hx hk he hw hlo (.dflt _) ha (Nat.le_refl _)
  rwa [List.take_of_length_le (by simp)] at h
theorem OpL.slice_to {t e w : Nat} {X : Operand} {hi : Option Operand} {c : Bool} {l : List AV} {b : Nat} (hx : ev T X = .list c w l) (hk : (E.td t).kind = .slice e) (he : (E.td e).kind ≠ .other)
    (hw : (E.td e).size = w) (hhi : Bd T hi l.length b) (hb : b ≤ l.length) : OpL E ⟨d, .slice t X none hi none, ty, pos, af, g⟩ T H [] [] (.list false w (l.take b)) := by
  have h := OpL.slice_list (d := d) (ty := ty) (pos := pos) (af := af) (g := g) (H := H) (lo := none) hx hk he hw (.dflt _) hhi (Nat.zero_le _) hb
  simpa using h
theorem OpL.slice_max {t e w : Nat} {X M' : Operand} {lo : Option Operand} {Hi : Operand} {c : Bool} {l : List AV} {a b mx : Nat} (hx : ev T X = .list c w l) (hk : (E.td t).kind = .slice e) (he : (E.td e).kind ≠ .other)
    (hw : (E.td e).size = w) (hlo : Bd T lo 0 a) (hhi : Bd T (some Hi) l.length b) (hm : Bd T (some M') l.length mx) (hab : a ≤ b) (hb : b ≤ mx) (hmx : mx ≤ l.length) :
    OpL E ⟨d, .slice t X lo (some Hi) (some M'), ty, pos, af, g⟩ T H [] [] (.list false w ((l.drop a).take (b - a))) :=
  OpL.pure (by simp) fun m ac wd hT => by
    have h1 := hT X (by simp [Op.operands])
    rw [hx] at h1
    have h0 := h1
    obtain ⟨ad, cap, h1, h2, h3, h4, h5⟩ := h1
    have hlo' := hlo.toV (m := m) (a := ac) fun Y hY => hT Y (by simp [Op.operands, hY])
    have hhi' := hhi.toV (m := m) (a := ac) fun Y hY => hT Y (by cases hY; simp [Op.operands])
    have hm' : BdV ((some M').map ac.eval) cap mx := by
      rcases hm.toV (m := m) (a := ac) fun Y hY => hT Y (by cases hY; simp [Op.operands]) with ⟨h, _⟩ | h
      · simp at h
      · exact .inr h
    have hr := run_sliceAt_bd hk he hw (base := ad) (run_bounds_max (P := E.P) (w := wd) (s := true) (cap := cap) hlo' hhi' (by simp) hm' (by simp) hab hb (by omega))
    rw [h1] at h0
    refine ⟨_, by simp only [execOp, h1]; rw [Sem.run_bind, hr]; rfl, R_sub h0 hab (by omega) hb (by omega)⟩

theorem OpL.slice_sl {t e w : Nat} {X : Operand} {lo hi : Option Operand} {c : Bool} {id off len a b : Nat} (hx : ev T X = .sl c id w off len) (hk : (E.td t).kind = .slice e) (he : (E.td e).kind ≠ .other)
    (hw : (E.td e).size = w) (hlo : Bd T lo 0 a) (hhi : Bd T hi len b) (hab : a ≤ b) (hb : b ≤ len) :
    OpL E ⟨d, .slice t X lo hi none, ty, pos, af, g⟩ T H [] [] (.sl false id w (off + a) (b - a)) :=
  OpL.pure (by simp) fun m ac wd hT => by
    have h1 := hT X (by simp [Op.operands])
    rw [hx] at h1
    obtain ⟨ol, h1, h2, _⟩ := h1
    have hlo' := hlo.toV (m := m) (a := ac) fun Y hY => hT Y (by simp [Op.operands, hY])
    have hhi' := hhi.toV (m := m) (a := ac) fun Y hY => hT Y (by simp [Op.operands, hY])
    cases ol with
    | none =>
      obtain ⟨h3, rfl, rfl⟩ := h2
      obtain rfl : b = 0 := by omega
      obtain rfl : a = 0 := by omega
      have hr := run_sliceAt_bd hk he hw (base := none) (run_bounds (P := E.P) (w := wd) (s := true) (cap := 0) hlo' hhi' hab hb (Nat.le_refl _))
      exact ⟨.slice none 0 0, by simp [execOp, h3, hr], none, h1, ⟨rfl, rfl, rfl⟩, fun h => by simp at h⟩
    | some L =>
      obtain ⟨ad, h3, h4, h5, h6⟩ := h2
      have hr := run_sliceAt_bd hk he hw (base := some ad) (run_bounds (P := E.P) (w := wd) (s := true) (cap := L.cap - off) hlo' hhi' hab (by omega) (by omega))
      refine ⟨.slice (if L.cap - off = a then some ad else (some ad).map (·.add (a * w))) (b - a) (L.cap - off - a), by simp [execOp, h3, hr], some L, h1, ?_, fun h => by simp at h⟩
      by_cases hc : L.cap - off = a
      · refine ⟨ad, by rw [if_pos hc]; congr 1; omega, by omega, h5, fun h => by omega⟩
      · refine ⟨ad.add (a * w), by rw [if_neg hc]; simp; omega, by omega, h5, fun h => ?_⟩
        rw [h6 (by omega), addr_add, Nat.add_mul]

/-! ### append -/
theorem row_news {m : Mem} {w' : World} {b w : Nat} {cs : Array Value} {T' : TypeId} {fr : Nat × Nat} (hb : w'.heap[b]? = some (.cells cs T' fr)) : ∀ {xs : List AV} {o : Nat} (_ : RRow m cs w o xs) (_ : ∀ x ∈ xs, x.solid = true),
    ∃ news : List Value, news.length = xs.length * w ∧ (∀ j u, news[j]? = some u → cs[o + j]? = some u) ∧ (∀ u ∈ news, u.oneCell' = true) ∧
      ∀ (arr : Array Value) (p : Nat), (∀ j, j < xs.length * w → arr[p + j]? = news[j]?) → RRow m arr w p xs
  | [], o, _, _ => ⟨[], by simp, fun j u h => by simp at h, fun u h => by simp at h, fun _ _ _ => trivial⟩
  | x :: xs, o, ⟨⟨u, h1, h2, h3⟩, h4⟩, hs => by
    obtain ⟨news, h5, h6, h7, h8⟩ := row_news hb h4 fun y hy => hs y (by simp [hy])
    have hx := R_solid (hs x (by simp)) h1
    refine ⟨u.cells.toList ++ news, by simp [h5, h2, Nat.succ_mul]; omega, fun j z hj => ?_, fun z hz => ?_, fun arr p harr => ⟨⟨u, h1, h2, fun j hj => ?_⟩, h8 arr (p + w) fun j hj => ?_⟩⟩
    · rcases Nat.lt_or_ge j w with h | h
      · rw [List.getElem?_append_left (by simp; omega)] at hj
        rw [h3 j h]; simpa using hj
      · rw [List.getElem?_append_right (by simp; omega)] at hj
        have := h6 _ z hj
        rw [Array.length_toList, h2] at this
        rw [← this]; congr 1; omega
    · rcases List.mem_append.1 hz with h | h
      · exact hx.1 z h
      · exact h7 z h
    · rw [harr j (by simp only [List.length_cons, Nat.succ_mul]; omega), List.getElem?_append_left (by simp; omega)]; simp
    · have := harr (w + j) (by simp only [List.length_cons, Nat.succ_mul]; omega)
      rw [Nat.add_assoc, this, List.getElem?_append_right (by simp; omega)]
      congr 1
      simp; omega

theorem RRow_append {m : Mem} {arr : Array Value} {w : Nat} : ∀ {l xs : List AV} {o : Nat} (_ : RRow m arr w o l) (_ : RRow m arr w (o + l.length * w) xs), RRow m arr w o (l ++ xs)
  | [], xs, o, _, h => by simpa using h
  | x :: l, xs, o, ⟨h1, h2⟩, h => ⟨h1, RRow_append h2 (by simpa [Nat.succ_mul, Nat.add_assoc, Nat.add_comm w] using h)⟩

theorem RRow_congr {m : Mem} {arr arr' : Array Value} {w o o' : Nat} {l : List AV} (h : RRow m arr w o l) (he : ∀ j, j < l.length * w → arr'[o' + j]? = arr[o + j]?) : RRow m arr' w o' l := by
  rw [RRow_iff] at *
  intro i hi
  obtain ⟨u, h1, h2, h3⟩ := h i hi
  have hiw : (i + 1) * w ≤ l.length * w := Nat.mul_le_mul_right _ hi
  rw [Nat.succ_mul] at hiw
  refine ⟨u, h1, h2, fun j hj => ?_⟩
  rw [Nat.add_assoc, he (i * w + j) (by omega), ← Nat.add_assoc]
  exact h3 j hj

/-- The source of an append: its elements. -/
inductive Src (T : Nat → AV) (H : Nat → HO) (w : Nat) : Operand → List AV → List Nat → Prop where
  | list {X : Operand} {c : Bool} {l : List AV} (hx : ev T X = .list c w l) : Src T H w X l []
  | sl {X : Operand} {c : Bool} {id len t : Nat} {l : List AV} (hx : ev T X = .sl c id w 0 len) (hH : H id = .arr t w l) (hl : len = l.length) : Src T H w X l [id]
  | part {X : Operand} {c : Bool} {id off len t : Nat} {l : List AV} (hx : ev T X = .sl c id w off len) (hH : H id = .arr t w l) (hl : off + len ≤ l.length) : Src T H w X ((l.drop off).take len) [id]

/-- What the source is: a slice value, and where it is not empty, a block with a row. -/
theorem Src.get {m : Mem} {r0 : Nat → Option Obj} {w0 wd : World} {mu : Nat → Prop} {H' : Nat → HO} {a : Act} {w : Nat} {X : Operand} {xs : List AV} {rd : List Nat} (h : Src T H w X xs rd) (hX : R m (ev T X) (a.eval X)) (hM : MemOK r0 w0 mu m H' wd)
    (hr : ∀ i ∈ rd, H' i = H i) : ∃ ad cap, a.eval X = .slice ad xs.length cap ∧ (xs ≠ [] → ∃ b o cs T' fr, ad = some ⟨b, o, none⟩ ∧ wd.heap[b]? = some (.cells cs T' fr) ∧ RRow m cs w o xs) := by
  have key : ∀ {c : Bool} {id off len t : Nat} {l : List AV}, ev T X = .sl c id w off len → H id = .arr t w l → off + len ≤ l.length → (∀ i ∈ [id], H' i = H i) →
      ∃ ad cap, a.eval X = .slice ad ((l.drop off).take len).length cap ∧ ((l.drop off).take len ≠ [] → ∃ b o cs T' fr, ad = some ⟨b, o, none⟩ ∧ wd.heap[b]? = some (.cells cs T' fr) ∧ RRow m cs w o ((l.drop off).take len)) := by
    intro c id off len t l hx hH hl hr
    rw [hx] at hX
    obtain ⟨ol, h1, h2, _⟩ := hX
    have hob := hM.obj id
    rw [hr id (by simp), hH] at hob
    obtain ⟨ol', h3, h4, h5⟩ := hob
    rw [h1] at h3
    obtain rfl := Option.some.inj h3
    have hlen : ((l.drop off).take len).length = len := by simp; omega
    cases ol with
    | none =>
      obtain ⟨h6, rfl, rfl⟩ := h2
      exact ⟨none, 0, by rw [hlen]; exact h6, fun h => by simp at h⟩
    | some L =>
      obtain ⟨ad, h6, h7, h8, h9⟩ := h2
      obtain ⟨cs, h10, h11, h12, h13⟩ := h5 L rfl
      refine ⟨some ad, _, by rw [hlen]; exact h6, fun hne => ?_⟩
      have hpos : 0 < len := by
        rcases Nat.eq_zero_or_pos len with h | h
        · exact absurd (List.eq_nil_of_length_eq_zero (by rw [hlen]; exact h)) hne
        · exact h
      refine ⟨L.blk, off * w, cs, t, (0, 0), by rw [h9 (by omega)], h10, RRow_take ?_ _⟩
      have := RRow_drop h13 off
      rwa [Nat.zero_add] at this
  cases h with
  | list hx =>
    rw [hx] at hX
    obtain ⟨ad, cap, h1, h2, h3, h4, h5⟩ := hX
    refine ⟨ad, cap, h1, fun hne => ?_⟩
    obtain ⟨b, o, cs, T', fr, h6, h7, h8⟩ := h5 hne
    exact ⟨b, o, cs, T', fr, h6, hM.ro _ _ h7, RRow.mono m.noat_le _ _ _ _ h8⟩
  | sl hx hH hl =>
    rename_i c id len t
    subst hl
    have := key hx hH (by simp) hr
    simpa using this
  | part hx hH hl => exact key hx hH hl hr

theorem run_append_none {P : Program} {wd : World} (t u ty e : TypeId) (i : TypeInfo) (ht : P.underlying t = some (.slice e)) (hi : P.info? e = some i) (base ad : Option Addr) (sLen sCap cap : Nat) (hle : sLen ≤ sCap) :
    (Builtin.append_ #[t, t] ty #[.slice base sLen sCap, .slice ad 0 cap]).run P wd = .ok (.slice base sLen sCap) wd := by
  cases base <;> cases ad <;> simp [Builtin.append_, run_underlying ht, sizeOf, typeInfo, hi, Builtin.lenOf, hle, Builtin.firstCells, loadCells, loadCellsFrom, storeCells]

end
end Go.Proofs.YtfbjoamdkieamaaGreat.AM
end

section
set_option linter.unusedSimpArgs false
set_option linter.unusedVariables false
namespace Go.Proofs.YtfbjoamdkieamaaGreat.AM
open Go
section
variable {E : Env} {T : Nat → AV} {H : Nat → HO} {d : Option Tmp} {ty : TypeId} {pos : String} {af : Array Edge} {g : Option (Nat × Bool)}

theorem Mem.bind_at (m : Mem) (id : Nat) (L : Option Loc) : (m.bind id L).at_ id = some L := if_pos rfl

theorem size_zeroCells' (z : Array Value) (n : Nat) : (Builtin.zeroCells z n).size = n * z.size := by simp [Builtin.zeroCells]

/-- A name more for what was one object's, or for nothing: the world is as it was. -/
theorem MemOK.rebind {r0 : Nat → Option Obj} {w0 w : World} {mu : Nat → Prop} {m : Mem} {H : Nat → HO} (hM : MemOK r0 w0 mu m H w) {id d : Nat} {t wd : Nat} {l : List AV} {ol : Option Loc} (hH : H id = .arr t wd l) (hat : m.at_ id = some ol) (hf : H d = .free) :
    m.le (m.bind d ol) ∧ MemOK r0 w0 mu (m.bind d ol) (upd (upd H id .dead) d (.arr t wd l)) w := by
  have hnone : m.at_ d = none := by have := hM.obj d; rw [hf] at this; exact this
  have hle : m.le (m.bind d ol) := Mem.le_bind hnone
  have hne : d ≠ id := by intro h; rw [h, hH] at hf; cases hf
  have hlive : (H id).live = true := by rw [hH]; rfl
  refine ⟨hle, (hM.kill id).turn d (.arr t wd l) (fun _ => False) hle rfl (fun i hi => by simp [Mem.bind, hi]) rfl rfl rfl (Nat.le_refl _) (fun _ _ _ => rfl) (fun _ h => h.elim) ?_ ?_⟩
  · have hob := hM.obj id
    rw [hH] at hob
    obtain ⟨ol', h1, h2, h3⟩ := hob
    rw [hat] at h1
    obtain rfl := Option.some.inj h1
    exact ⟨ol, by simp [Mem.bind], h2, fun L hL => (h3 L hL).mono hle rfl⟩
  · intro _ L hL
    simp [Mem.bind] at hL
    rw [hL] at hat
    refine ⟨(hM.mine id L hlive hat).1, (hM.mine id L hlive hat).2, fun i L' hi hlv hL' => ?_⟩
    have hi2 : i ≠ id := by intro h; subst h; rw [upd_same] at hlv; cases hlv
    rw [upd_ne _ _ _ _ hi2] at hlv
    exact hM.apart i id L' L hi2 hlv hlive hL' hat

theorem OpL.append_sl {t e w by_ len id : Nat} {S X : Operand} {c : Bool} {l xs : List AV} {rd : List Nat} {k : TK} {z : AV} (hs : ev T S = .sl c id w 0 len) (hH : H id = .arr e w l) (hlen : len = l.length) (hX : Src T H w X xs rd)
    (hk : (E.td t).kind = .slice e) (he : E.td e = ⟨k, w, by_, z⟩) (hk' : k ≠ .other) (hw0 : 0 < w) (hb0 : 0 < by_) (hf : H (idOf d) = .free) (hsol : ∀ x ∈ xs, x.solid = true) (hroom : (l.length + xs.length) * by_ ≤ 140737488355328) :
    OpL E ⟨d, .call { callee := .builtin .append, args := #[S, X], argTypes := #[t, t] }, ty, pos, af, g⟩ T H (id :: idOf d :: rd) [(idOf d, .arr e w (l ++ xs)), (id, .dead)] (.sl c (idOf d) w 0 (l.length + xs.length)) := by
  subst hlen
  refine ⟨fun r n m a wd r0 w0 mu H' next Q hT hM hr hn => ?_⟩
  have h1 := hT S (by simp [Op.operands, Call.operands])
  have h2 := hT X (by simp [Op.operands, Call.operands])
  rw [hs] at h1
  have hH' : H' id = .arr e w l := by rw [hr id (by simp)]; exact hH
  have hf' : H' (idOf d) = .free := by rw [hr (idOf d) (by simp)]; exact hf
  have hne : idOf d ≠ id := by intro h; rw [h, hH'] at hf'; cases hf'
  obtain ⟨ol, h3, h4, hc⟩ := h1
  have hob := hM.obj id
  rw [hH'] at hob
  obtain ⟨ol', h5, h6, h7⟩ := hob
  rw [h3] at h5
  obtain rfl := Option.some.inj h5
  obtain ⟨ad, cap, h8, h9⟩ := hX.get h2 hM fun i hi => hr i (by simp [hi])
  have hund := Env.und_slice hk
  obtain ⟨_, i, zv, _, hi, _, hsz, hby, hz, _, hzs⟩ := Env.facts (E := E) (t := e) (by rw [he]; exact hk')
  rw [he] at hsz hby hzs
  dsimp only at hsz hby hzs
  have hlive : (H' id).live = true := by rw [hH']; rfl
  have hmaxr : l.length + xs.length ≤ 140737488355328 := Nat.le_trans (Nat.le_mul_of_pos_right _ hb0) hroom
  have fin : ∀ (u : Value) (w' : World) (m' : Mem), (Builtin.append_ #[t, t] ty #[a.eval S, a.eval X]).run E.P wd = .ok u w' → m.le m' → MemOK r0 w0 mu m' (upd (upd H' id .dead) (idOf d) (.arr e w (l ++ xs))) w' →
      R m' (.sl c (idOf d) w 0 (l.length + xs.length)) u → Oper.wpIn (Wf r) n E.P ⟨d, .call { callee := .builtin .append, args := #[S, X], argTypes := #[t, t] }, ty, pos, af, g⟩ a wd next Q := by
    intro u w' m' hrun hle hM' hR
    refine wpIn_value (by simp) (u := u) (w' := w') ?_ (hn m' u w' hle hM' hR)
    simp [execOp, resolve, invoke, builtin, hrun]
  by_cases hxs : xs = []
  · subst hxs
    obtain ⟨hle, hM'⟩ := hM.rebind hH' h3 hf'
    have hv : ∃ base sCap, a.eval S = .slice base l.length sCap ∧ l.length ≤ sCap := by
      cases ol with
      | none => obtain ⟨h4, h10, _⟩ := h4; exact ⟨none, 0, by rw [h10]; exact h4, by omega⟩
      | some L => obtain ⟨ad', h4, h10, _⟩ := h4; exact ⟨_, _, h4, by omega⟩
    obtain ⟨base, sCap, hv, hvl⟩ := hv
    refine fin (.slice base l.length sCap) wd (m.bind (idOf d) ol) ?_ hle (by simpa using hM') ?_
    · rw [hv, h8]; exact run_append_none t t ty e i hund hi base ad l.length sCap cap hvl
    · rw [hv] at h4
      exact ⟨ol, by simp [Mem.bind], by simpa using h4, by simpa using hc⟩
  · obtain ⟨b, o, cs, T', fr, rfl, h10, h11⟩ := h9 hxs
    obtain ⟨news, h12, h13, h14, h15⟩ := row_news h10 h11 hsol
    have hpos : 0 < xs.length := List.length_pos_iff.2 hxs
    have hnews : ∀ j u, news[j]? = some u → wd.cell? ((⟨b, o, none⟩ : Addr).add j) = some u := by
      intro j u hj
      rw [addr_add]
      simp [World.cell?, h10, h13 j u hj]
    have hkill := hM.kill id
    have hf2 : (upd H' id .dead) (idOf d) = .free := by rw [upd_ne _ _ _ _ hne]; exact hf'
    cases ol with
    | none =>
      obtain ⟨h4, h16, _⟩ := h4
      have hl : l = [] := List.eq_nil_of_length_eq_zero h16
      subst hl
      have hrun := run_append_nil (P := E.P) wd t ty e i zv hund hi hz ⟨b, o, none⟩ xs.length cap news (by rw [h12, hsz]) hnews hpos (by omega) (by rw [hby]; simp at hroom; omega)
      have hcapge : xs.length ≤ grownCap wd xs.length 0 e := by simp [grownCap, Question.cut]
      have hcaple := grownCap_le_maxLen wd xs.length 0 e (by unfold maxLen; omega)
      obtain ⟨hle, hM'⟩ := hkill.drew.new hf2 e w (grownCap wd xs.length 0 e) xs (news.toArray ++ Builtin.zeroCells zv.cells (grownCap wd xs.length 0 e - xs.length))
        (by simp [size_zeroCells', h12, hzs, ← Nat.add_mul]; congr 1; omega) hcapge
        (h15 _ 0 fun j hj => by rw [Nat.zero_add, Array.getElem?_append_left (by simp; omega)]; simp)
      refine fin _ _ _ (by rw [h4, h8]; exact hrun) hle (by simpa using hM') ?_
      refine ⟨some ⟨wd.heap.size, grownCap wd xs.length 0 e⟩, Mem.bind_at _ _ _, ⟨⟨wd.heap.size, 0, none⟩, by simp, by simpa using hcapge, hcaple, fun _ => by simp⟩, fun _ h => by simp only [List.length_nil, Nat.zero_add] at h; omega⟩
    | some L =>
      obtain ⟨ad', h4, h16, h17, h18⟩ := h4
      rw [Nat.zero_add] at h16
      obtain ⟨cs2, h19, h20, h21, h22⟩ := h7 L rfl
      by_cases hfit : l.length + xs.length ≤ L.cap
      · -- there is room
        have hb1 : ad' = ⟨L.blk, 0, none⟩ := by rw [h18 (by omega)]; simp
        subst hb1
        have hmul : (l.length + xs.length) * w ≤ L.cap * w := Nat.mul_le_mul_right _ hfit
        rw [Nat.add_mul] at hmul
        have hrun := run_append_room (P := E.P) wd t ty e i hund hi L.blk l.length (L.cap - 0) cs2 h19 ⟨b, o, none⟩ xs.length cap news (by rw [h12, hsz]) hnews h14 (by omega) (by rw [hsz, h12, h20]; exact hmul)
        rw [hsz] at hrun
        have hle : m.le (m.bind (idOf d) (some L)) := Mem.le_bind (by have := hM.obj (idOf d); rw [hf'] at this; exact this)
        have hmine := hM.mine id L hlive h3
        have hothers : ∀ i L', (upd H' id .dead i).live = true → m.at_ i = some (some L') → L'.blk ≠ L.blk := by
          intro i L' hlv hL'
          have hi2 : i ≠ id := by intro h; subst h; rw [upd_same] at hlv; cases hlv
          rw [upd_ne _ _ _ _ hi2] at hlv
          exact hM.apart i id L' L hi2 hlv hlive hL' h3
        have hlen2 : (cs2.toList.take (l.length * w) ++ news ++ cs2.toList.drop (l.length * w + news.length)).length = L.cap * w := by
          simp; rw [h12, h20]; omega
        have hget := fun j => getElem?_splice cs2.toList news (l.length * w) j (by rw [h12]; simp; omega)
        have hM' := hkill.turn (m' := m.bind (idOf d) (some L)) (w' := wd.setRow L.blk (cs2.toList.take (l.length * w) ++ news ++ cs2.toList.drop (l.length * w + news.length)).toArray) (idOf d) (.arr e w (l ++ xs)) (fun b => b = L.blk)
          hle rfl (fun i hi => by simp [Mem.bind, hi]) rfl rfl rfl (by simp) (fun b _ hne => setRow_other wd L.blk b _ hne)
          (by rintro b rfl; exact ⟨hmine.1, hmine.2, fun i L' _ hlv hL' => hothers i L' hlv hL'⟩)
          (by
            refine ⟨some L, by simp [Mem.bind], fun h => by simp at h, fun L' hL' => ?_⟩
            cases hL'
            refine ⟨_, setRow_heap wd L.blk cs2 _ e (0, 0) h19, by simp only [List.size_toArray]; exact hlen2, by simp; omega, RRow.mono hle _ _ _ _ (RRow_append (RRow_congr h22 fun j hj => ?_) (h15 _ _ fun j hj => ?_))⟩
            · have := hget (0 + j)
              rw [if_neg (by omega)] at this
              simpa using this
            · have := hget (l.length * w + j)
              rw [if_pos (by omega)] at this
              rw [show l.length * w + j - l.length * w = j from by omega] at this
              simpa using this)
          (by
            intro _ L' hL'
            simp [Mem.bind] at hL'
            subst hL'
            exact ⟨hmine.1, hmine.2, fun i L'' _ hlv hL'' => hothers i L'' hlv hL''⟩)
        refine fin _ _ _ (by rw [h4, h8]; exact hrun) hle hM' ?_
        exact ⟨some L, by simp [Mem.bind], ⟨_, rfl, by omega, h17, fun _ => by simp⟩, fun _ h => by omega⟩
      · -- a new block
        have holds : ∀ j u, (cs2.toList.take (l.length * w))[j]? = some u → wd.cell? (ad'.add j) = some u := by
          intro j u hj
          have hlt : j < l.length * w := by
            rcases Nat.lt_or_ge j (l.length * w) with h | h
            · exact h
            · rw [List.getElem?_eq_none (by simp; omega)] at hj; cases hj
          have hlpos : 0 < l.length := by rcases Nat.eq_zero_or_pos l.length with h | h; (rw [h] at hlt; simp at hlt); exact h
          rw [h18 (by omega), addr_add]
          rw [List.getElem?_take_of_lt hlt] at hj
          simp [World.cell?, h19]
          simpa using hj
        have hmul : l.length * w ≤ L.cap * w := Nat.mul_le_mul_right _ h21
        have hrun := run_append_grow (P := E.P) wd t ty e i zv hund hi hz ad' l.length (L.cap - 0) (cs2.toList.take (l.length * w)) (by rw [hsz]; simp; omega) holds ⟨b, o, none⟩ xs.length cap news (by rw [h12, hsz]) hnews
          (by omega) (by omega) (growslice_fits (by omega) (by rw [hby]; exact hroom))
        have hcapge : l.length + xs.length ≤ grownCap wd (l.length + xs.length) (L.cap - 0) e := by simp [grownCap, Question.cut]
        have hcaple := grownCap_le_maxLen wd (l.length + xs.length) (L.cap - 0) e (by unfold maxLen; omega)
        generalize hgc : grownCap wd (l.length + xs.length) (L.cap - 0) e = gc at *
        have htl : (cs2.toList.take (l.length * w)).length = l.length * w := by simp; omega
        obtain ⟨hle, hM'⟩ := hkill.drew.new hf2 e w gc (l ++ xs) ((cs2.toList.take (l.length * w)).toArray ++ news.toArray ++ Builtin.zeroCells zv.cells (gc - (l.length + xs.length)))
          (by
            simp only [Array.size_append, List.size_toArray, size_zeroCells', h12, hzs, htl, ← Nat.add_mul]
            congr 1; omega)
          (by simpa using hcapge)
          (RRow_append
            (RRow_congr h22 fun j hj => by
              rw [Array.append_assoc, Array.getElem?_append_left (by simp; omega)]
              simp [List.getElem?_take_of_lt hj, hj])
            (h15 _ _ fun j hj => by
              rw [Array.append_assoc, Array.getElem?_append_right (by simp; omega), Array.getElem?_append_left (by simp; omega)]
              simp
              congr 1
              omega))
        refine fin _ _ _ (by rw [h4, h8]; exact hrun) hle hM' ?_
        exact ⟨some ⟨wd.heap.size, gc⟩, Mem.bind_at _ _ _, ⟨⟨wd.heap.size, 0, none⟩, by simp, by simpa using hcapge, hcaple, fun _ => by simp⟩, fun _ h => by omega⟩

theorem OpL.append_nil {t e w w' by_ : Nat} {S X : Operand} {xs : List AV} {rd : List Nat} {k : TK} {z : AV} (hs : ev T S = .list true w' []) (hX : Src T H w X xs rd)
    (hk : (E.td t).kind = .slice e) (he : E.td e = ⟨k, w, by_, z⟩) (hk' : k ≠ .other) (hw0 : 0 < w) (hb0 : 0 < by_) (hf : H (idOf d) = .free) (hsol : ∀ x ∈ xs, x.solid = true) (hroom : xs.length * by_ ≤ 140737488355328) :
    OpL E ⟨d, .call { callee := .builtin .append, args := #[S, X], argTypes := #[t, t] }, ty, pos, af, g⟩ T H (idOf d :: rd) [(idOf d, .arr e w xs)] (.sl true (idOf d) w 0 xs.length) := by
  refine ⟨fun r n m a wd r0 w0 mu H' next Q hT hM hr hn => ?_⟩
  have h1 := hT S (by simp [Op.operands, Call.operands])
  have h2 := hT X (by simp [Op.operands, Call.operands])
  rw [hs] at h1
  have hf' : H' (idOf d) = .free := by rw [hr (idOf d) (by simp)]; exact hf
  have hnone : m.at_ (idOf d) = none := by have := hM.obj (idOf d); rw [hf'] at this; exact this
  obtain ⟨ad0, cap0, h3, _, _, h4, _⟩ := h1
  obtain ⟨rfl, rfl⟩ := h4 rfl rfl
  obtain ⟨ad, cap, h8, h9⟩ := hX.get h2 hM fun i hi => hr i (by simp [hi])
  have hund := Env.und_slice hk
  obtain ⟨_, i, zv, _, hi, _, hsz, hby, hz, _, hzs⟩ := Env.facts (E := E) (t := e) (by rw [he]; exact hk')
  rw [he] at hsz hby hzs
  dsimp only at hsz hby hzs
  have hmaxr : xs.length ≤ 140737488355328 := Nat.le_trans (Nat.le_mul_of_pos_right _ hb0) hroom
  have fin : ∀ (u : Value) (w'' : World) (m' : Mem), (Builtin.append_ #[t, t] ty #[a.eval S, a.eval X]).run E.P wd = .ok u w'' → m.le m' → MemOK r0 w0 mu m' (upd H' (idOf d) (.arr e w xs)) w'' →
      R m' (.sl true (idOf d) w 0 xs.length) u → Oper.wpIn (Wf r) n E.P ⟨d, .call { callee := .builtin .append, args := #[S, X], argTypes := #[t, t] }, ty, pos, af, g⟩ a wd next Q := by
    intro u w'' m' hrun hle hM' hR
    refine wpIn_value (by simp) (u := u) (w' := w'') ?_ (hn m' u w'' hle hM' hR)
    simp [execOp, resolve, invoke, builtin, hrun]
  by_cases hxs : xs = []
  · subst hxs
    have hle : m.le (m.bind (idOf d) none) := Mem.le_bind hnone
    refine fin (.slice none 0 0) wd (m.bind (idOf d) none) ?_ hle ?_ ⟨none, by simp [Mem.bind], ⟨rfl, rfl, rfl⟩, fun _ _ => rfl⟩
    · rw [h3, h8]; exact run_append_none t t ty e i hund hi none ad 0 0 cap (Nat.le_refl _)
    · exact hM.turn (idOf d) (.arr e w []) (fun _ => False) hle rfl (fun i hi => by simp [Mem.bind, hi]) rfl rfl rfl (Nat.le_refl _) (fun _ _ _ => rfl) (fun _ h => h.elim)
        ⟨none, by simp [Mem.bind], fun _ => rfl, fun L hL => by cases hL⟩ (fun _ L hL => by simp [Mem.bind] at hL)
  · obtain ⟨b, o, cs, T', fr, rfl, h10, h11⟩ := h9 hxs
    obtain ⟨news, h12, h13, h14, h15⟩ := row_news h10 h11 hsol
    have hpos : 0 < xs.length := List.length_pos_iff.2 hxs
    have hnews : ∀ j u, news[j]? = some u → wd.cell? ((⟨b, o, none⟩ : Addr).add j) = some u := by
      intro j u hj
      rw [addr_add]
      simp [World.cell?, h10, h13 j u hj]
    have hrun := run_append_nil (P := E.P) wd t ty e i zv hund hi hz ⟨b, o, none⟩ xs.length cap news (by rw [h12, hsz]) hnews hpos (by omega) (by rw [hby]; omega)
    have hcapge : xs.length ≤ grownCap wd xs.length 0 e := by simp [grownCap, Question.cut]
    have hcaple := grownCap_le_maxLen wd xs.length 0 e (by unfold maxLen; omega)
    obtain ⟨hle, hM'⟩ := hM.drew.new hf' e w (grownCap wd xs.length 0 e) xs (news.toArray ++ Builtin.zeroCells zv.cells (grownCap wd xs.length 0 e - xs.length))
      (by simp [size_zeroCells', h12, hzs, ← Nat.add_mul]; congr 1; omega) hcapge
      (h15 _ 0 fun j hj => by rw [Nat.zero_add, Array.getElem?_append_left (by simp; omega)]; simp)
    refine fin _ _ _ (by rw [h3, h8]; exact hrun) hle hM' ?_
    exact ⟨some ⟨wd.heap.size, grownCap wd xs.length 0 e⟩, Mem.bind_at _ _ _, ⟨⟨wd.heap.size, 0, none⟩, by simp, by simpa using hcapge, hcaple, fun _ => by simp⟩, fun _ h => by omega⟩
end
end Go.Proofs.YtfbjoamdkieamaaGreat.AM
end

section
set_option linter.unusedSimpArgs false
set_option linter.unusedVariables false
namespace Go.Proofs.YtfbjoamdkieamaaGreat.AM
open Go

/-- What is known of the temporaries and of the objects; the names that the caller knows. -/
structure AS where
  t : Nat → AV
  h : Nat → HO
  k : List Nat

/-- A call under way: the memory and the world when it began, the blocks that it may write, the deferred marks, the round that it is in. -/
structure Ctx where
  m0 : Mem
  w0 : World
  mu : Nat → Prop
  df : List Deferred
  r : Option Nat
  n : Nat

/-- The deferred marks of ranges over functions: blocks that hold no deferred call, laid since the call began. -/
def Marks (m : Mem) (w0 : World) (ds : List Deferred) : Prop := ∃ bs : List Nat, ds = bs.map (fun b => ⟨.collected b, #[]⟩) ∧ bs.Nodup ∧ ∀ b ∈ bs, m.ro b = some (.deferred (some [])) ∧ w0.heap.size ≤ b
theorem Marks.mono {m m' : Mem} {w0 : World} {ds : List Deferred} (hro : ∀ b o, m.ro b = some o → m'.ro b = some o) : Marks m w0 ds → Marks m' w0 ds :=
  fun ⟨bs, h1, h2, h3⟩ => ⟨bs, h1, h2, fun b hb => ⟨hro b _ (h3 b hb).1, (h3 b hb).2⟩⟩

structure DenM (X : Ctx) (nt : Nat) (m : Mem) (s : AS) (a : Act) (w : World) : Prop where
  size : a.tmps.size = nt
  defers : Marks m X.w0 a.defers
  le : X.m0.le m
  ids : ∀ i x, X.m0.at_ i = some x → i ∈ s.k
  tmps : ∀ i, R m (s.t i) (a.tmps.getD i undef)
  mem : MemOK X.m0.ro X.w0 X.mu m s.h w

def Den (X : Ctx) (nt : Nat) (s : AS) (a : Act) (w : World) : Prop := ∃ m, DenM X nt m s a w

def PostA (X : Ctx) (nt : Nat) (Q : Exit → AS → Prop) : Exit → Act → World → Prop
  | .panic _, _, _ => False
  | .outgrown, _, _ => False
  | e, a, w => ∃ s, Q e s ∧ Den X nt s a w

structure GoC (E : Env) (X : Ctx) (nt : Nat) (c : Code) (Q : Exit → AS → Prop) (s : AS) : Prop where
  out : ∀ a w, Den X nt s a w → c.wpIn (Wf X.r) X.n E.P (PostA X nt Q) a w

def dstsLt (ops : List Oper) (nt : Nat) : Bool := ops.all fun o => match o.dst with | some d => Nat.blt d nt | none => true

structure GoOps (E : Env) (X : Ctx) (nt : Nat) (ops : Array Oper) (l : List Oper) (Q : AS → Prop) (s : AS) : Prop where
  out : dstsLt l nt = true → ∀ (Q' : Exit → Act → World → Prop) (a : Act) (w : World), (∀ s' a' w', Q s' → Den X nt s' a' w' → Q' .normal a' w') → Den X nt s a w → wpListIn (Wf X.r) X.n E.P ops Q' l a w

def putD {α : Type} (f : Nat → α) (d : Option Tmp) (x : α) : Nat → α :=
  match d with
  | some i => upd f i x
  | none => f

section
variable {E : Env} {X : Ctx} {nt : Nat} {ops : Array Oper} {l : List Oper} {o : Oper} {s : AS} {K : AS → Prop} {Q : Exit → AS → Prop}

theorem getD_setIfInBounds (a : Array Value) (i j : Nat) (v : Value) (hi : i < a.size) : (a.setIfInBounds i v).getD j undef = if j = i then v else a.getD j undef := by
  by_cases h : j = i
  · subst h
    simp [Array.getD, hi]
  · rw [if_neg h]
    simp only [Array.getD_eq_getD_getElem?, Array.getElem?_setIfInBounds_ne (Ne.symm h)]

theorem DenM.put {m : Mem} {a : Act} {w w' : World} {m' : Mem} {h' : Nat → HO} {d : Option Tmp} {v : AV} {u : Value} (hD : DenM X nt m s a w) (hd : ∀ i, d = some i → i < nt) (hle : m.le m')
    (hM : MemOK X.m0.ro X.w0 X.mu m' h' w') (hv : R m' v u) : DenM X nt m' ⟨putD s.t d v, h', s.k⟩ (a.put d u) w' where
  size := by cases d <;> simp [Act.put, hD.size]
  defers := by cases d <;> exact hD.defers.mono hle.ro
  le := hD.le.trans hle
  ids := hD.ids
  tmps i := by
    cases d with
    | none => exact R.mono hle _ _ (hD.tmps i)
    | some j =>
      simp only [Act.put, putD]
      rw [getD_setIfInBounds _ _ _ _ (by rw [hD.size]; exact hd j rfl)]
      by_cases h : i = j
      · subst h; rw [upd_same, if_pos rfl]; exact hv
      · rw [upd_ne _ _ _ _ h, if_neg h]; exact R.mono hle _ _ (hD.tmps i)
  mem := hM

theorem DenM.evals {m : Mem} {a : Act} {w : World} (hD : DenM X nt m s a w) (Y : Operand) : R m (ev s.t Y) (a.eval Y) := R_ev fun t _ => hD.tmps t

theorem dstsLt_cons (h : dstsLt (o :: l) nt = true) : (∀ i, o.dst = some i → i < nt) ∧ dstsLt l nt = true := by
  simp only [dstsLt, List.all_cons, Bool.and_eq_true] at h
  refine ⟨fun i hi => ?_, h.2⟩
  have := h.1
  rw [hi] at this
  exact Nat.lt_of_lt_of_le (Nat.le_of_ble_eq_true this) (Nat.le_refl _)

theorem GoOps.nil (h : K s) : GoOps E X nt ops [] K s := ⟨fun _ Q' a w hQ hD => hQ s a w h hD⟩

/-- One operation that is not guarded. -/
theorem GoOps.op {rd : List Nat} {post : List (Nat × HO)} {v : AV} (hop : OpL E o s.t s.h rd post v) (hg : o.guard = none) (hK : GoOps E X nt ops l K ⟨putD s.t o.dst v, updL s.h post, s.k⟩) : GoOps E X nt ops (o :: l) K s := by
  refine ⟨fun hl Q' a w hQ hD => ?_⟩
  obtain ⟨hd, hl⟩ := dstsLt_cons hl
  obtain ⟨m, hD⟩ := hD
  refine wpListIn_plain hg fun K' hK' => ?_
  exact hop.run X.r X.n m a w X.m0.ro X.w0 X.mu s.h K' Q' (fun Y _ => hD.evals Y) hD.mem (fun _ _ => rfl) fun m' u w' hle hM hv => hK' _ _ (hK.out hl Q' _ w' hQ ⟨m', hD.put hd hle hM hv⟩)

theorem yielded_of {m : Mem} {a : Act} {w : World} {j dj : Nat} {b : Bool} (hD : DenM X nt m s a w) (hj : (ops[j]?).bind (·.dst) = some dj) (hlt : dj < nt) (hb : s.t dj = .bool b) : yielded ops a.tmps j = some b := by
  have h := hD.tmps dj
  rw [hb] at h
  have h' : a.tmps.getD dj undef = .bool b := h
  have h2 : a.tmps[dj]? = some (.bool b) := by
    rw [Array.getD_eq_getD_getElem?] at h'
    cases he : a.tmps[dj]? with
    | none =>
      have := Array.getElem?_eq_none_iff.1 he
      rw [hD.size] at this
      omega
    | some v => rw [he] at h'; simpa using h'
  simp [yielded, hj, h2]

/-- One operation that is guarded, and carried out. -/
theorem GoOps.guard {j dj : Nat} {want : Bool} {rd : List Nat} {post : List (Nat × HO)} {v : AV} {b : Bool} (hg : o.guard = some (j, want)) (hj : (ops[j]?).bind (·.dst) = some dj) (hlt : Nat.blt dj nt = true) (hb : s.t dj = .bool b) (hbw : b = want)
    (hop : OpL E o s.t s.h rd post v) (hK : GoOps E X nt ops l K ⟨putD s.t o.dst v, updL s.h post, s.k⟩) : GoOps E X nt ops (o :: l) K s := by
  subst hbw
  refine ⟨fun hl Q' a w hQ hD => ?_⟩
  obtain ⟨hd, hl⟩ := dstsLt_cons hl
  obtain ⟨m, hD⟩ := hD
  have hy := yielded_of hD hj (Nat.le_of_ble_eq_true hlt) hb
  refine wpListIn_step fun K' hK' => ?_
  simp only [Region.wanted, hg, hy, beq_self_eq_true, if_true]
  exact hop.run X.r X.n m a w X.m0.ro X.w0 X.mu s.h K' Q' (fun Y _ => hD.evals Y) hD.mem (fun _ _ => rfl) fun m' u w' hle hM hv => hK' _ _ (hK.out hl Q' _ w' hQ ⟨m', hD.put hd hle hM hv⟩)

/-- One operation that is guarded, and passed over. -/
theorem GoOps.skip {j dj : Nat} {want b : Bool} (hg : o.guard = some (j, want)) (hj : (ops[j]?).bind (·.dst) = some dj) (hlt : Nat.blt dj nt = true) (hb : s.t dj = .bool b) (hbw : b = !want)
    (hK : GoOps E X nt ops l K ⟨putD s.t o.dst (.raw undef), s.h, s.k⟩) : GoOps E X nt ops (o :: l) K s := by
  refine ⟨fun hl Q' a w hQ hD => ?_⟩
  obtain ⟨hd, hl⟩ := dstsLt_cons hl
  obtain ⟨m, hD⟩ := hD
  have hy := yielded_of hD hj (Nat.le_of_ble_eq_true hlt) hb
  refine wpListIn_step fun K' hK' => ?_
  have hw : Region.wanted o (yielded ops a.tmps) = false := by
    simp only [Region.wanted, hg, hy]
    subst hbw
    cases want <;> rfl
  rw [hw]
  exact ⟨fun _ _ => trivial, hK' _ _ (hK.out hl Q' _ w hQ ⟨m, hD.put hd (Mem.le.refl m) hD.mem rfl⟩)⟩

theorem yielded_none {m : Mem} {a : Act} {w : World} {j dj : Nat} (hD : DenM X nt m s a w) (hj : (ops[j]?).bind (·.dst) = some dj) (hlt : dj < nt) (hb : s.t dj = .raw undef) : yielded ops a.tmps j = none := by
  have h := hD.tmps dj
  rw [hb] at h
  have h' : a.tmps.getD dj undef = undef := h
  have h2 : a.tmps[dj]? = some undef := by
    rw [Array.getD_eq_getD_getElem?] at h'
    cases he : a.tmps[dj]? with
    | none =>
      have := Array.getElem?_eq_none_iff.1 he
      rw [hD.size] at this
      omega
    | some v => rw [he] at h'; simpa using h'
  simp [yielded, hj, h2, undef]

/-- One operation whose guard was itself passed over. -/
theorem GoOps.skipU {j dj : Nat} {want : Bool} (hg : o.guard = some (j, want)) (hj : (ops[j]?).bind (·.dst) = some dj) (hlt : Nat.blt dj nt = true) (hb : s.t dj = .raw undef)
    (hK : GoOps E X nt ops l K ⟨putD s.t o.dst (.raw undef), s.h, s.k⟩) : GoOps E X nt ops (o :: l) K s := by
  refine ⟨fun hl Q' a w hQ hD => ?_⟩
  obtain ⟨hd, hl⟩ := dstsLt_cons hl
  obtain ⟨m, hD⟩ := hD
  have hy := yielded_none hD hj (Nat.le_of_ble_eq_true hlt) hb
  refine wpListIn_step fun K' hK' => ?_
  have hw : Region.wanted o (yielded ops a.tmps) = false := by
    simp only [Region.wanted, hg, hy]
    rfl
  rw [hw]
  exact ⟨fun _ _ => trivial, hK' _ _ (hK.out hl Q' _ w hQ ⟨m, hD.put hd (Mem.le.refl m) hD.mem rfl⟩)⟩

/-- What is known less. -/
structure AS.sub (s s' : AS) : Prop where
  out : ∀ (X : Ctx) (nt : Nat) (a : Act) (w : World), Den X nt s a w → Den X nt s' a w

theorem AS.sub.refl (s : AS) : s.sub s := ⟨fun _ _ _ _ h => h⟩
theorem AS.sub.trans {a b c : AS} (h : a.sub b) (h' : b.sub c) : a.sub c := ⟨fun X nt x w hh => h'.out X nt x w (h.out X nt x w hh)⟩
theorem GoC.sub {c : Code} {s' : AS} (hs : s.sub s') (h : GoC E X nt c Q s') : GoC E X nt c Q s := ⟨fun a w hD => h.out a w (hs.out X nt a w hD)⟩

/-! ### Statements -/
def thenA (K : AS → Prop) (Q : Exit → AS → Prop) : Exit → AS → Prop
  | .normal, s => K s
  | .exit i, s => Q (.exit i) s
  | .goto l, s => Q (.goto l) s
  | .ret, s => Q .ret s
  | .panic c, s => Q (.panic c) s
  | .outgrown, s => Q .outgrown s
def inBlockA (id : Nat) (Q : Exit → AS → Prop) : Exit → AS → Prop
  | .exit id', s => (bif id' == id then Q .normal s else Q (.exit id') s)
  | .normal, s => Q .normal s
  | .goto l, s => Q (.goto l) s
  | .ret, s => Q .ret s
  | .panic c, s => Q (.panic c) s
  | .outgrown, s => Q .outgrown s

theorem GoC.region {c : Nat} (hl : dstsLt ops.toList nt = true) (h : GoOps E X nt ops ops.toList (Q .normal) s) : GoC E X nt (.region c ops false) Q s := by
  refine ⟨fun a w hD => wpIn_region_list (h.out hl _ a w (fun s' a' w' hq hd => ⟨s', hq, hd⟩) hD)⟩

theorem GoC.skip (h : Q .normal s) : GoC E X nt .skip Q s := ⟨fun a w hD => wpIn_skip ⟨s, h, hD⟩⟩
theorem GoC.label {i : Nat} (h : Q .normal s) : GoC E X nt (.label i) Q s := ⟨fun a w hD => wpIn_label ⟨s, h, hD⟩⟩
theorem GoC.ret (h : Q .ret s) : GoC E X nt .ret Q s := ⟨fun a w hD => wpIn_ret ⟨s, h, hD⟩⟩
theorem GoC.exit {i : Nat} (h : Q (.exit i) s) : GoC E X nt (.exit i) Q s := ⟨fun a w hD => wpIn_exit ⟨s, h, hD⟩⟩

theorem GoC.seq {c c' : Code} (h : GoC E X nt c (thenA (GoC E X nt c' Q) Q) s) : GoC E X nt (.seq c c') Q s := by
  refine ⟨fun a w hD => wpIn_seq (wpIn_mono (h.out a w hD) fun e a' w' he => ?_)⟩
  cases e <;> simp only [PostA, Exit.then] at *
  · obtain ⟨s', h1, h2⟩ := he; exact h1.out _ _ h2
  all_goals exact he

theorem GoC.block {i : Nat} {c : Code} (h : GoC E X nt c (inBlockA i Q) s) : GoC E X nt (.block i c) Q s := by
  refine ⟨fun a w hD => wpIn_block (wpIn_mono (h.out a w hD) fun e a' w' he => ?_)⟩
  cases e with
  | exit j =>
    simp only [PostA, Exit.inBlock] at *
    obtain ⟨s', h1, h2⟩ := he
    simp only [inBlockA] at h1
    by_cases hj : j = i
    · subst hj; simp at h1; rw [if_pos rfl]; exact ⟨s', h1, h2⟩
    · have : (j == i) = false := by simpa using hj
      rw [this] at h1; rw [if_neg hj]; exact ⟨s', h1, h2⟩
  | _ => exact he

theorem GoC.cond {c : Operand} {x y : Code} {b : Bool} (hc : ev s.t c = .bool b) (ht : b = true → GoC E X nt x Q s) (hf : b = false → GoC E X nt y Q s) : GoC E X nt (.cond c x y) Q s := by
  refine ⟨fun a w hD => ?_⟩
  have hv : a.eval c = .bool b := by
    obtain ⟨m, hD'⟩ := hD
    have := hD'.evals c
    rw [hc] at this
    exact this
  exact wpIn_cond_split hv (fun h => (ht h).out a w hD) (fun h => (hf h).out a w hD)

theorem GoC.mono {c : Code} {Q' : Exit → AS → Prop} (h : GoC E X nt c Q s) (hq : ∀ e s, Q e s → Q' e s) : GoC E X nt c Q' s := by
  refine ⟨fun a w hD => wpIn_mono (h.out a w hD) fun e a' w' he => ?_⟩
  cases e <;> simp only [PostA] at * <;> first | exact he | (obtain ⟨s', h1, h2⟩ := he; exact ⟨s', hq _ _ h1, h2⟩)

/-- A loop: a family of states, a premise, a measure, over ghosts. -/
theorem GoC.loop {c : Code} {G : Type} (st : G → AS) (pre : G → Prop) (μ : G → Nat) (g0 : G) (h0 : pre g0) (hs : s.sub (st g0))
    (round : ∀ g, pre g → ∀ R : AS → Prop, (∀ g' s', pre g' → μ g' < μ g → s'.sub (st g') → R s') → GoC E X nt c (thenA R Q) (st g)) : GoC E X nt (.loop c) Q s := by
  refine ⟨fun a w hD => wpIn_loop_rounds (μ g0 + 1) ?_⟩
  have key : ∀ k g a w, μ g < k → pre g → Den X nt (st g) a w → Code.roundsIn (Wf X.r) X.n E.P c (PostA X nt Q) k a w := by
    intro k
    induction k with
    | zero => intro g a w h; omega
    | succ k ih =>
      intro g a w hk hp hD
      rw [roundsIn_succ]
      refine wpIn_mono ((round g hp (fun s' => ∃ g', pre g' ∧ μ g' < μ g ∧ s'.sub (st g')) fun g' s' h1 h2 h3 => ⟨g', h1, h2, h3⟩).out a w hD) fun e a' w' he => ?_
      cases e <;> simp only [PostA, Exit.then, thenA] at *
      · obtain ⟨s', ⟨g', h1, h2, h3⟩, h4⟩ := he
        exact ih g' a' w' (by omega) h1 (h3.out _ _ _ _ h4)
      all_goals exact he
  exact key _ g0 a w (by omega) h0 (hs.out _ _ _ _ hD)
end

/-! ### Functions -/
/-- Each of the values is what the other list says. -/
def blocksOf (m : Mem) (H : Nat → HO) (b : Nat) : Prop := ∃ id L, (H id).live = true ∧ m.at_ id = some (some L) ∧ b = L.blk

/-- A function, called with these arguments and objects: it returns, and Q is true of the result and the objects. -/
structure Spec (E : Env) (f : FuncId) (args : List AV) (H : Nat → HO) (Q : AV → (Nat → HO) → Prop) : Prop where
  code : ∃ fn, E.P.funcs[f]? = some fn ∧ fn.body.isSome = true ∧ (fn.name == "runtime.NumGoroutine") = false
  run : ∀ (n : Nat) (m : Mem) (w : World) (vs : List Value), MemOK m.ro w (blocksOf m H) m H w → RS m args vs →
    CallsIn Fence.wide n E.P f vs.toArray w fun e w' => ∃ v r H' m', e = .returned v ∧ Q r H' ∧ m.le m' ∧ MemOK m.ro w (blocksOf m H) m' H' w' ∧ R m' r v

theorem Spec.mono {E : Env} {f : FuncId} {args : List AV} {H : Nat → HO} {Q Q' : AV → (Nat → HO) → Prop} (h : Spec E f args H Q) (hq : ∀ r H', Q r H' → Q' r H') : Spec E f args H Q' :=
  ⟨h.code, fun n m w vs hM hv => (h.run n m w vs hM hv).mono fun e w' ⟨v, r, H', m', h1, h2, h3⟩ => ⟨v, r, H', m', h1, hq _ _ h2, h3⟩⟩

/-- What reads as x reads as y. -/
def Wk (x y : AV) : Prop := ∀ (m : Mem) (v : Value), R m x v → R m y v
theorem Wk.refl (x : AV) : Wk x x := fun _ _ h => h
theorem Wk.junk (x : AV) : Wk x .junk := fun _ _ _ => trivial
theorem Wk.nil {w : Nat} (c : Bool) (w' : Nat) : Wk (.list true w []) (.list c w' []) := fun m v ⟨a, cap, h1, h2, h3, h4, h5⟩ => ⟨a, cap, h1, h2, h3, fun _ h => h4 rfl h, fun h => absurd rfl h⟩
theorem Wk.list (c : Bool) (w : Nat) (l : List AV) : Wk (.list c w l) (.list false w l) := fun m v ⟨a, cap, h1, h2, h3, h4, h5⟩ => ⟨a, cap, h1, h2, h3, fun h => by simp at h, h5⟩
theorem Wk.of_eq {x y : AV} (h : x = y) : Wk x y := h ▸ Wk.refl x

/-- The results that a state holds. -/
def RetOK (E : Env) (s : AS) : List ResultVar → List AV → Prop
  | [], vs => vs = []
  | .tmp t :: rs, vs => ∃ v vs', vs = v :: vs' ∧ Wk (s.t t) v ∧ RetOK E s rs vs'
  | .cell a ty :: rs, vs => ∃ v vs', vs = v :: vs' ∧ (∃ id w i o tt l x, s.t a = .ptr id w i o ∧ s.h id = .arr tt w l ∧ i < l.length ∧ LoadV (E.td ty) (l.getD i .junk) o x ∧ Wk x v) ∧ RetOK E s rs vs'

def tup : List AV → AV
  | [v] => v
  | vs => .tuple vs

def FnPost (E : Env) (rs : List ResultVar) (Q : AV → (Nat → HO) → Prop) : Exit → AS → Prop
  | .normal, s | .ret, s => ∃ s' : AS, s.sub s' ∧ ∃ vs, RetOK E s' rs vs ∧ Q (tup vs) s'.h
  | _, _ => False

section
variable {E : Env} {s : AS}
theorem RetOK.nil : RetOK E s [] [] := rfl
theorem RetOK.tmp {t : Tmp} {rs : List ResultVar} {v : AV} {vs : List AV} (h : Wk (s.t t) v) (h' : RetOK E s rs vs) : RetOK E s (.tmp t :: rs) (v :: vs) := ⟨v, vs, rfl, h, h'⟩
theorem RetOK.cell {a : Tmp} {ty : TypeId} {rs : List ResultVar} {v x : AV} {vs : List AV} {id w i o tt : Nat} {l : List AV} (h1 : s.t a = .ptr id w i o) (h2 : s.h id = .arr tt w l) (h3 : i < l.length)
    (h4 : LoadV (E.td ty) (l.getD i .junk) o x) (h5 : Wk x v) (h' : RetOK E s rs vs) : RetOK E s (.cell a ty :: rs) (v :: vs) := ⟨v, vs, rfl, ⟨id, w, i, o, tt, l, x, h1, h2, h3, h4, h5⟩, h'⟩

def resF (tmps : Array Value) : ResultVar → Sem Value
  | .tmp t => Pure.pure (tmps.getD t undef)
  | .cell a t => do loadVar t (← asAddr (tmps.getD a undef))

theorem results_eq (fn : Func) (tmps : Array Value) : results fn tmps = (do let vs ← fn.results.mapM (resF tmps); Pure.pure (if h : vs.size = 1 then vs[0] else .tuple vs)) := by
  unfold results
  congr 1

theorem mapM_results {tmps : Array Value} {w : World} {m : Mem} {r0 : Nat → Option Obj} {w0 : World} {mu : Nat → Prop} (hmem : MemOK r0 w0 mu m s.h w)
    (ht : ∀ i, R m (s.t i) (tmps.getD i undef)) : ∀ {rs : List ResultVar} {vs : List AV}, RetOK E s rs vs → ∃ us : List Value, (rs.mapM (resF tmps)).run E.P w = .ok us w ∧ RS m vs us
  | [], vs, h => ⟨[], by simp, by rw [show vs = [] from h]; rfl⟩
  | .tmp t :: rs, _, ⟨v, vs, rfl, h1, h2⟩ => by
    obtain ⟨us, h3, h4⟩ := mapM_results hmem ht h2
    refine ⟨tmps.getD t undef :: us, ?_, _, _, rfl, h1 m _ (ht t), h4⟩
    rw [List.mapM_cons]
    simp only [Sem.run_bind, resF, Sem.run_pure, Result.andThen_ok, h3]
  | .cell a ty :: rs, _, ⟨v, vs, rfl, ⟨id, wd, i, o, tt, l, x, h5, h6, h7, h8, h9⟩, h2⟩ => by
    obtain ⟨us, h3, h4⟩ := mapM_results hmem ht h2
    have ha := ht a
    rw [h5] at ha
    obtain ⟨L, h10, h11⟩ := ha
    have hob := hmem.obj id
    rw [h6] at hob
    obtain ⟨ol, h12, _, h13⟩ := hob
    rw [h10] at h12
    obtain ⟨cs, hb, hs, hle, hrow⟩ := h13 L (Option.some.inj h12).symm
    obtain ⟨u, h14, h15⟩ := RRow_get hrow i h7
    rw [Nat.zero_add] at h15
    obtain ⟨z, h16, h17⟩ := h8.run hb h14 h15
    simp only [Instr.loadAt, Instr.sureAddr, Sem.run_bind, Sem.run_pure, Result.andThen_ok] at h16
    refine ⟨z :: us, ?_, _, _, rfl, h9 m _ h17, h4⟩
    rw [List.mapM_cons]
    simp only [Sem.run_bind, resF, h11, asAddr, Sem.run_pure, Result.andThen_ok, h16, h3]

theorem run_results {fn : Func} {rs : List ResultVar} (hrs : fn.results = rs.toArray) {tmps : Array Value} {w : World} {m : Mem} {r0 : Nat → Option Obj} {w0 : World} {mu : Nat → Prop} (hmem : MemOK r0 w0 mu m s.h w)
    (ht : ∀ i, R m (s.t i) (tmps.getD i undef)) {vs : List AV} (h : RetOK E s rs vs) : ∃ v, (results fn tmps).run E.P w = .ok v w ∧ R m (tup vs) v := by
  obtain ⟨us, h1, h2⟩ := mapM_results (E := E) hmem ht h
  refine ⟨if h : us.toArray.size = 1 then us.toArray[0] else .tuple us.toArray, ?_, ?_⟩
  · rw [results_eq, hrs, List.mapM_toArray]
    simp only [Sem.run_bind, Sem.run_map, Sem.run_pure, h1, Result.andThen_ok]
  · have hl := RS_len h2
    match vs, us, h2, hl with
    | [], us, h2, hl =>
      obtain rfl : us = [] := h2
      exact ⟨[], rfl, rfl⟩
    | [v], us, h2, hl =>
      obtain ⟨u, us', rfl, h3, h4⟩ := h2
      obtain rfl : us' = [] := h4
      simpa [tup] using h3
    | v :: v' :: vs, us, h2, hl =>
      have : ¬ us.toArray.size = 1 := by simp at hl ⊢; omega
      rw [dif_neg this]
      exact ⟨us, rfl, h2⟩

def argsAt : List AV → Nat → Nat → AV
  | [], _ => fun _ => .junk
  | x :: r, i => upd (argsAt r (i + 1)) i x

theorem RS_argsAt {m : Mem} {rest : Array Value} (hr : ∀ i, rest.getD i undef = undef) : ∀ {xs : List AV} {vs : List Value} (k : Nat) (pre : List Value), pre.length = k → RS m xs vs → ∀ i, k ≤ i → R m (argsAt xs k i) (((pre ++ vs).toArray ++ rest).getD i undef)
  | [], _, k, pre, hk, h, i, hi => by trivial
  | x :: xs, _, k, pre, hk, ⟨v, vs, rfl, h1, h2⟩, i, hi => by
    have ih := RS_argsAt hr (k + 1) (pre ++ [v]) (by simp [hk]) h2 i
    simp only [argsAt]
    by_cases h : i = k
    · subst h
      rw [upd_same]
      have : ((pre ++ v :: vs).toArray ++ rest).getD i undef = v := by
        simp [Array.getD_eq_getD_getElem?, Array.getElem?_append, hk]
      rw [this]; exact h1
    · rw [upd_ne _ _ _ _ h]
      have := ih (by omega)
      simpa using this

theorem argsAt_lt : ∀ (xs : List AV) (k i : Nat), i < k → argsAt xs k i = .junk
  | [], _, _, _ => rfl
  | x :: xs, k, i, h => by simp only [argsAt]; rw [upd_ne _ _ _ _ (by omega)]; exact argsAt_lt xs (k + 1) i (by omega)

/-- The memory without the blocks of marks. -/
def Mem.unmark (m : Mem) (bs : List Nat) : Mem := ⟨fun b => if b ∈ bs then none else m.ro b, m.at_⟩

mutual
theorem R_cellsro {m m' : Mem} (hro : ∀ b cs T fr, m.ro b = some (.cells cs T fr) → m'.ro b = some (.cells cs T fr)) (hat : ∀ i x, m.at_ i = some x → m'.at_ i = some x) : ∀ (x : AV) (v : Value), R m x v → R m' x v
  | .junk, _, _ => trivial
  | .int _ _, _, h' => h'
  | .bool _, _, h' => h'
  | .raw _, _, h' => h'
  | .list c w l, v, ⟨a, cap, h1, h2, h3, h4, h5⟩ => ⟨a, cap, h1, h2, h3, h4, fun hl => by
      obtain ⟨b, o, cs, T, fr, ha, hr, hrow⟩ := h5 hl
      exact ⟨b, o, cs, T, fr, ha, hro _ _ _ _ hr, RRow_cellsro (m := m.noat) (m' := m'.noat) hro (fun _ _ h => nomatch h) cs w o l hrow⟩⟩
  | .agg cs, v, ⟨vs, h1, h2⟩ => ⟨vs, h1, RS_cellsro hro hat cs vs h2⟩
  | .tuple cs, v, ⟨vs, h1, h2⟩ => ⟨vs, h1, RS_cellsro hro hat cs vs h2⟩
  | .ref x o, v, ⟨b, base, cs, T, fr, u, h1, h2, h3, h4⟩ => ⟨b, base, cs, T, fr, u, h1, hro _ _ _ _ h2, R_cellsro (m := m.noat) (m' := m'.noat) hro (fun _ _ h => nomatch h) x u h3, h4⟩
  | .ptr id w i o, v, ⟨L, h1, h2⟩ => ⟨L, hat _ _ h1, h2⟩
  | .sl c id w off len, v, ⟨ol, h1, h2⟩ => ⟨ol, hat _ _ h1, h2⟩
  | .fn f first cap, v, ⟨fs, cs, h1, h2, h3⟩ => ⟨fs, cs, h1, RS_cellsro hro hat first fs h2, RS_cellsro hro hat cap cs h3⟩
  | .omap id, v, ⟨L, h1, h2⟩ => ⟨L, hat _ _ h1, h2⟩
  | .yld id, v, ⟨L, h1, h2⟩ => ⟨L, hat _ _ h1, h2⟩
theorem RS_cellsro {m m' : Mem} (hro : ∀ b cs T fr, m.ro b = some (.cells cs T fr) → m'.ro b = some (.cells cs T fr)) (hat : ∀ i x, m.at_ i = some x → m'.at_ i = some x) : ∀ (xs : List AV) (vs : List Value), RS m xs vs → RS m' xs vs
  | [], _, h' => h'
  | x :: r, _, ⟨v, vs', h1, h2, h3⟩ => ⟨v, vs', h1, R_cellsro hro hat x v h2, RS_cellsro hro hat r vs' h3⟩
theorem RRow_cellsro {m m' : Mem} (hro : ∀ b cs T fr, m.ro b = some (.cells cs T fr) → m'.ro b = some (.cells cs T fr)) (hat : ∀ i x, m.at_ i = some x → m'.at_ i = some x) (arr : Array Value) (w : Nat) : ∀ (o : Nat) (xs : List AV), RRow m arr w o xs → RRow m' arr w o xs
  | _, [], _ => trivial
  | o, x :: r, ⟨⟨u, h1, h2⟩, h3⟩ => ⟨⟨u, R_cellsro hro hat x u h1, h2⟩, RRow_cellsro hro hat arr w (o + w) r h3⟩
end

theorem REnt_cellsro {m m' : Mem} (hro : ∀ b cs T fr, m.ro b = some (.cells cs T fr) → m'.ro b = some (.cells cs T fr)) (hat : ∀ i x, m.at_ i = some x → m'.at_ i = some x) : ∀ {k : Nat} {l : List (AV × AV)} {es : List MapEntry}, REnt m k l es → REnt m' k l es
  | _, [], _, h' => h'
  | _, p :: r, _, ⟨e, es', h1, h2, h3, h4, h5⟩ => ⟨e, es', h1, h2, R_cellsro hro hat _ _ h3, R_cellsro hro hat _ _ h4, REnt_cellsro hro hat h5⟩

/-- One mark's block is shut. -/
theorem MemOK.shut {r0 : Nat → Option Obj} {w0 w : World} {mu : Nat → Prop} {m : Mem} {H : Nat → HO} (hM : MemOK r0 w0 mu m H w) {b : Nat} (hb : m.ro b = some (.deferred (some []))) (hw : w0.heap.size ≤ b) (o : Obj) :
    MemOK r0 w0 mu (m.unmark [b]) H { w with heap := w.heap.setIfInBounds b o } := by
  have hheap := hM.ro b _ hb
  have hlt : b < w.heap.size := (Array.getElem?_eq_some_iff.1 hheap).1
  have hother : ∀ j, j ≠ b → ({ w with heap := w.heap.setIfInBounds b o } : World).heap[j]? = w.heap[j]? := fun j hj => by simp [Ne.symm hj]
  have hcells : ∀ b' cs T fr, m.ro b' = some (.cells cs T fr) → (m.unmark [b]).ro b' = some (.cells cs T fr) := by
    intro b' cs T fr h
    have : b' ≠ b := by intro he; rw [he, hb] at h; cases h
    simp [Mem.unmark, this, h]
  have hatt : ∀ i x, m.at_ i = some x → (m.unmark [b]).at_ i = some x := fun _ _ h => h
  have hne : ∀ id L, (H id).live = true → m.at_ id = some (some L) → L.blk ≠ b := by
    intro id L hl hL he
    have := (hM.mine id L hl hL).1
    rw [he, hb] at this; cases this
  exact {
    os := hM.os
    tape := hM.tape
    output := hM.output
    size := by simpa using hM.size
    block := fun i hi hmu => by rw [hother i (by omega)]; exact hM.block i hi hmu
    ro := fun b' o' h => by
      simp only [Mem.unmark, List.mem_singleton] at h
      split at h
      · cases h
      · rename_i hn
        rw [hother b' hn]; exact hM.ro b' o' h
    told := fun b' o' h => by
      simp only [Mem.unmark, List.mem_singleton] at h
      split at h
      · cases h
      · exact hM.told b' o' h
    obj := fun id => by
      have hob := hM.obj id
      cases ho : H id with
      | free => rw [ho] at hob; exact hob
      | dead => trivial
      | arr t wd l =>
        rw [ho] at hob
        obtain ⟨ol, h1, h2, h3⟩ := hob
        refine ⟨ol, h1, h2, fun L hL => ?_⟩
        obtain ⟨cs, h4, h5, h6, h7⟩ := h3 L hL
        exact ⟨cs, by rw [hother _ (hne id L (by rw [ho]; rfl) (by rw [h1, hL]))]; exact h4, h5, h6, RRow_cellsro hcells hatt _ _ _ _ h7⟩
      | map es =>
        rw [ho] at hob
        obtain ⟨L, h1, en, h2, h3⟩ := hob
        exact ⟨L, h1, en, by rw [hother _ (hne id L (by rw [ho]; rfl) h1)]; exact h2, REnt_cellsro hcells hatt h3⟩
      | iter mid n seen =>
        rw [ho] at hob
        obtain ⟨L, Lm, h1, h2, h3⟩ := hob
        exact ⟨L, Lm, h1, h2, by rw [hother _ (hne id L (by rw [ho]; rfl) h1)]; exact h3⟩
      | loop busy nt ps asg body tm =>
        rw [ho] at hob
        obtain ⟨L, r, h1, h2, h3⟩ := hob
        exact ⟨L, r, h1, by rw [hother _ (hne id L (by rw [ho]; rfl) h1)]; exact h2, h3.1, h3.2.1, h3.2.2.1, h3.2.2.2.1, h3.2.2.2.2.1, h3.2.2.2.2.2.1, fun i => R_cellsro hcells hatt _ _ (h3.2.2.2.2.2.2 i)⟩
    mine := fun id L hl hL => by
      refine ⟨?_, (hM.mine id L hl hL).2⟩
      simp only [Mem.unmark, List.mem_singleton]
      rw [if_neg (hne id L hl hL)]
      exact (hM.mine id L hl hL).1
    apart := hM.apart }

/-- All marks are shut, and the results are read. -/
theorem leavesM_of {E : Env} {s : AS} {fn : Func} {rs : List ResultVar} {F : Fence} {n : Nat} (hrs : fn.results = rs.toArray) {tmps : Array Value} {r0 : Nat → Option Obj} {w0 : World} {mu : Nat → Prop} {m0 : Mem} (hm0 : ∀ b o, m0.ro b = some o → b < w0.heap.size) {vs : List AV} (hvs : RetOK E s rs vs) {Rr : Ending → World → Prop}
    (hR : ∀ (m' : Mem) (w' : World) (v : Value), m0.le m' → MemOK r0 w0 mu m' s.h w' → R m' (tup vs) v → Rr (.returned v) w') : ∀ (bs : List Nat) (m : Mem) (w : World), bs.Nodup → (∀ b ∈ bs, m.ro b = some (.deferred (some [])) ∧ w0.heap.size ≤ b) → m0.le m → MemOK r0 w0 mu m s.h w → (∀ i, R m (s.t i) (tmps.getD i undef)) →
    LeavesInM F n E.P fn tmps Rr (bs.map fun b => ⟨.collected b, #[]⟩) .returning w
  | [], m, w, _, _, hle, hM, ht => by
    obtain ⟨v, h1, h2⟩ := run_results (E := E) hrs hM ht hvs
    exact ⟨v, h1, hR m w v hle hM h2⟩
  | b :: bs, m, w, hnd, hb, hle, hM, ht => by
    obtain ⟨hb1, hb2⟩ := hb b (by simp)
    have hM' := hM.shut hb1 hb2 (.deferred none)
    have hheap := hM.ro b _ hb1
    have hnb : b ∉ bs := (List.nodup_cons.1 hnd).1
    refine ⟨by simp, .inl ⟨b, { w with heap := w.heap.setIfInBounds b (.deferred none) }, rfl, ?_, ?_⟩⟩
    · simp only [Instr.takeDeferred, getObj, setObj, Sem.run_bind, Sem.run, hheap, Result.andThen_ok]
      rfl
    · refine leavesM_of hrs hm0 hvs hR bs (m.unmark [b]) _ (List.nodup_cons.1 hnd).2 (fun c hc => ⟨?_, (hb c (by simp [hc])).2⟩) ⟨fun c o h => ?_, hle.at_⟩ hM' fun i => ?_
      · have : c ≠ b := fun he => hnb (he ▸ hc)
        simp only [Mem.unmark, List.mem_singleton, if_neg this]
        exact (hb c (by simp [hc])).1
      · have : c ≠ b := by have := hm0 c o h; omega
        simp only [Mem.unmark, List.mem_singleton, if_neg this]
        exact hle.ro c o h
      · refine R_cellsro (m := m) (m' := m.unmark [b]) ?_ (fun _ _ h => h) _ _ (ht i)
        intro c cs T fr h
        have : c ≠ b := by intro he; rw [he, hb1] at h; cases h
        simp only [Mem.unmark, List.mem_singleton, if_neg this]
        exact h

theorem Spec.introR {f : FuncId} {fn : Func} {c : Code} {args : List AV} {H : Nat → HO} {Q : AV → (Nat → HO) → Prop} {nt : Nat} {rs : List ResultVar} (hf : E.P.funcs[f]? = some fn) (hb : fn.body = some c) (hnt : fn.ntmps = nt) (hrs : fn.results = rs.toArray)
    (ha : Nat.ble args.length nt = true) (hname : (fn.name == "runtime.NumGoroutine") = false) (ks : List Nat) (hks : ∀ i, H i ≠ .free → i ∈ ks) (h : ∀ X : Ctx, X.r = none → GoC E X nt c (FnPost E rs Q) ⟨argsAt args 0, H, ks⟩) : Spec E f args H Q := by
  refine ⟨⟨fn, hf, by rw [hb]; rfl, hname⟩, fun n m w vs hM hv => ?_⟩
  have hlen := RS_len hv
  have hle := Nat.le_of_ble_eq_true ha
  let X : Ctx := { m0 := m, w0 := w, mu := blocksOf m H, df := [], r := none, n := n }
  have h0 : DenM X nt m ⟨argsAt args 0, H, ks⟩ { tmps := vs.toArray ++ Array.replicate (fn.ntmps - vs.toArray.size) undef, defers := [] } w := by
    refine ⟨by simp [hnt]; omega, ⟨[], rfl, List.nodup_nil, fun b hb => by simp at hb⟩, Mem.le.refl m, fun i x hx => hks i fun hf => (by have := hM.obj i; rw [hf] at this; rw [show m.at_ i = none from this] at hx; cases hx), fun i => ?_, hM⟩
    have := RS_argsAt (m := m) (rest := Array.replicate (fn.ntmps - vs.toArray.size) undef) (fun i => by simp [Array.getD_eq_getD_getElem?, Array.getElem?_replicate]; split <;> rfl) 0 [] rfl hv i (Nat.zero_le _)
    simpa using this
  refine callsIn_of_wp_marks hf hb trivial (wpIn_mono ((h X rfl).out _ w ⟨m, h0⟩) fun e a' w' he => ?_)
  have key : (∃ s, (∃ s' : AS, s.sub s' ∧ ∃ vs, RetOK E s' rs vs ∧ Q (tup vs) s'.h) ∧ Den X nt s a' w') → LeavesInM Fence.wide n E.P fn a'.tmps (fun e w' => ∃ v r H' m', e = .returned v ∧ Q r H' ∧ m.le m' ∧ MemOK m.ro w (blocksOf m H) m' H' w' ∧ R m' r v) a'.defers .returning w' := by
    rintro ⟨s0, ⟨s, hsub, vs', h1, h2⟩, hD0⟩
    obtain ⟨m', hD⟩ := hsub.out _ _ _ _ hD0
    obtain ⟨bs, h3, h4, h5⟩ := hD.defers
    rw [h3]
    exact leavesM_of hrs (fun b o hb => (Array.getElem?_eq_some_iff.1 (hM.ro b o hb)).1) h1 (fun m2 w2 v hle2 hM2 hr2 => ⟨v, _, _, m2, rfl, h2, hle2, hM2, hr2⟩) bs m' w' h4 h5 hD.le hD.mem hD.tmps
  cases e with
  | normal => exact key he
  | ret => exact key he
  | exit i => obtain ⟨s, h, _⟩ := he; exact h.elim
  | goto i => obtain ⟨s, h, _⟩ := he; exact h.elim
  | panic c => exact he.elim
  | outgrown => exact he.elim
theorem Spec.intro {f : FuncId} {fn : Func} {c : Code} {args : List AV} {H : Nat → HO} {Q : AV → (Nat → HO) → Prop} {nt : Nat} {rs : List ResultVar} (hf : E.P.funcs[f]? = some fn) (hb : fn.body = some c) (hnt : fn.ntmps = nt) (hrs : fn.results = rs.toArray)
    (ha : Nat.ble args.length nt = true) (hname : (fn.name == "runtime.NumGoroutine") = false) (ks : List Nat) (hks : ∀ i, H i ≠ .free → i ∈ ks) (h : ∀ X : Ctx, GoC E X nt c (FnPost E rs Q) ⟨argsAt args 0, H, ks⟩) : Spec E f args H Q :=
  Spec.introR hf hb hnt hrs ha hname ks hks fun X _ => h X
end

end Go.Proofs.YtfbjoamdkieamaaGreat.AM
end

section
set_option linter.unusedSimpArgs false
set_option linter.unusedVariables false
namespace Go.Proofs.YtfbjoamdkieamaaGreat.AM
open Go

mutual
def AV.noId : AV → Bool
  | .ptr .. | .sl .. | .omap _ | .yld _ => false
  | .agg cs => AV.noIds cs
  | .tuple cs => AV.noIds cs
  | .fn _ a b => AV.noIds a && AV.noIds b
  | _ => true
def AV.noIds : List AV → Bool
  | [] => true
  | x :: r => x.noId && AV.noIds r
end

mutual
theorem R_noId {m m' : Mem} (hro : ∀ b o, m.ro b = some o → m'.ro b = some o) : ∀ (x : AV) (v : Value), x.noId = true → R m x v → R m' x v
  | .junk, _, _, _ => trivial
  | .int _ _, _, _, h => h
  | .bool _, _, _, h => h
  | .raw _, _, _, h => h
  | .list c w l, v, _, ⟨a, cap, h1, h2, h3, h4, h5⟩ => ⟨a, cap, h1, h2, h3, h4, fun hl => by
      obtain ⟨b, o, cs, T, fr, ha, hr, hrow⟩ := h5 hl
      exact ⟨b, o, cs, T, fr, ha, hro _ _ hr, RRow.mono (m := m.noat) (m' := m'.noat) ⟨hro, fun _ _ h => nomatch h⟩ cs w o l hrow⟩⟩
  | .agg cs, v, hn, ⟨vs, h1, h2⟩ => ⟨vs, h1, RS_noId hro cs vs (by simpa only [AV.noId] using hn) h2⟩
  | .tuple cs, v, hn, ⟨vs, h1, h2⟩ => ⟨vs, h1, RS_noId hro cs vs (by simpa only [AV.noId] using hn) h2⟩
  | .ref x o, v, _, ⟨b, base, cs, T, fr, u, h1, h2, h3, h4⟩ => ⟨b, base, cs, T, fr, u, h1, hro _ _ h2, R.mono (m := m.noat) (m' := m'.noat) ⟨hro, fun _ _ h => nomatch h⟩ x u h3, h4⟩
  | .ptr _ _ _ _, _, hn, _ => by simp [AV.noId] at hn
  | .sl _ _ _ _ _, _, hn, _ => by simp [AV.noId] at hn
  | .fn f a b, v, hn, ⟨fs, cs, h1, h2, h3⟩ => by
      simp only [AV.noId, Bool.and_eq_true] at hn
      exact ⟨fs, cs, h1, RS_noId hro a fs hn.1 h2, RS_noId hro b cs hn.2 h3⟩
  | .omap _, _, hn, _ => by simp [AV.noId] at hn
  | .yld _, _, hn, _ => by simp [AV.noId] at hn
theorem RS_noId {m m' : Mem} (hro : ∀ b o, m.ro b = some o → m'.ro b = some o) : ∀ (xs : List AV) (vs : List Value), AV.noIds xs = true → RS m xs vs → RS m' xs vs
  | [], _, _, h => h
  | x :: r, _, hn, ⟨v, vs', h1, h2, h3⟩ => by
      simp only [AV.noIds, Bool.and_eq_true] at hn
      exact ⟨v, vs', h1, R_noId hro x v hn.1 h2, RS_noId hro r vs' hn.2 h3⟩
end

/-- A function of plain data: it gives v, and changes nothing. -/
abbrev PSpec (E : Env) (f : FuncId) (args : List AV) (v : AV) : Prop := Spec E f args (fun _ => .free) (fun r _ => r = v)

theorem MemOK.free {r0 : Nat → Option Obj} {w0 w : World} {mu : Nat → Prop} {m : Mem} {H : Nat → HO} (hM : MemOK r0 w0 mu m H w) : MemOK m.noat.ro w (blocksOf m.noat fun _ => .free) m.noat (fun _ => .free) w where
  os := rfl
  tape := rfl
  output := rfl
  size := Nat.le_refl _
  block _ _ _ := rfl
  ro := hM.ro
  told _ _ h := .inl h
  obj _ := rfl
  mine _ _ h := by simp [HO.live] at h
  apart _ _ _ _ _ h := by simp [HO.live] at h

theorem MemOK.afterPure {r0 : Nat → Option Obj} {w0 w w' : World} {mu : Nat → Prop} {m mc : Mem} {H Hc : Nat → HO} (hM : MemOK r0 w0 mu m H w) (hle : m.noat.le mc) (hC : MemOK m.noat.ro w (blocksOf m.noat fun _ => .free) mc Hc w') :
    m.le ⟨mc.ro, m.at_⟩ ∧ MemOK r0 w0 mu ⟨mc.ro, m.at_⟩ H w' := by
  have hno : ∀ b, ¬ blocksOf m.noat (fun _ => .free) b := by
    rintro b ⟨id, L, h, _⟩
    simp [HO.live] at h
  have hkeep : ∀ b, b < w.heap.size → w'.heap[b]? = w.heap[b]? := fun b hb => hC.block b hb (hno b)
  have htold : ∀ b o, mc.ro b = some o → m.ro b = some o ∨ w.heap.size ≤ b := by
    intro b o h
    rcases hC.told b o h with h | h | h
    · exact .inl h
    · exact .inr h
    · exact absurd h (hno b)
  refine ⟨⟨fun b o h => hle.ro b o h, fun _ _ h => h⟩, ?_⟩
  exact {
    os := hC.os.trans hM.os
    tape := hC.tape.trans hM.tape
    output := hC.output.trans hM.output
    size := Nat.le_trans hM.size hC.size
    block := fun i hi hmu => by rw [hkeep i (Nat.lt_of_lt_of_le hi hM.size)]; exact hM.block i hi hmu
    ro := hC.ro
    told := fun b o h => by
      rcases htold b o h with h | h
      · exact hM.told b o h
      · exact .inr (.inl (Nat.le_trans hM.size h))
    obj := fun id => HOok.mono (m := m) (m' := ⟨mc.ro, m.at_⟩) ⟨fun b o h => hle.ro b o h, fun _ _ h => h⟩ rfl (fun hl L hL => hkeep _ (hM.live_blk hl hL)) (hM.obj id)
    mine := fun id L hl hL => by
      refine ⟨?_, (hM.mine id L hl hL).2⟩
      cases hr : mc.ro L.blk with
      | none => rfl
      | some o =>
        rcases htold _ o hr with h | h
        · rw [(hM.mine id L hl hL).1] at h; cases h
        · exact absurd (hM.live_blk hl hL) (Nat.not_lt.2 h)
    apart := hM.apart }

section
variable {E : Env} {T : Nat → AV} {H : Nat → HO} {d : Option Tmp} {ty : TypeId} {pos : String} {af : Array Edge} {g : Option (Nat × Bool)}

theorem RS_map_ev {m : Mem} {a : Act} : ∀ (l : List Operand), (∀ X ∈ l, R m (ev T X) (a.eval X)) → RS m (l.map (ev T)) (l.map a.eval)
  | [], _ => rfl
  | x :: l, h => ⟨_, _, rfl, h x (by simp), RS_map_ev l fun X hX => h X (by simp [hX])⟩

theorem RS_append' {m : Mem} {xs ys : List AV} {vs us : List Value} (h : RS m xs vs) (h' : RS m ys us) : RS m (xs ++ ys) (vs ++ us) := RS_append h h'

/-- A call of a function value, of plain data. -/
theorem OpL.call {F : Operand} {As : Array Operand} {ats : Array TypeId} {f : FuncId} {first cap : List AV} {aL : List Operand} {v : AV} (hAs : As = aL.toArray) (hF : ev T F = .fn (.func f) first cap)
    (hS : PSpec E f (first ++ aL.map (ev T) ++ cap) v) (hn : AV.noIds (first ++ aL.map (ev T) ++ cap) = true) (hv : v.noId = true) :
    OpL E ⟨d, .call { callee := .value F, args := As, argTypes := ats }, ty, pos, af, g⟩ T H [] [] v := by
  subst hAs
  refine ⟨fun r n m a w r0 w0 mu H' next Q hT hM _ hK => ?_⟩
  have h1 := hT F (by simp [Op.operands, Call.operands])
  rw [hF] at h1
  obtain ⟨fs, cs, h1, h2, h3⟩ := h1
  have h4 : RS m (aL.map (ev T)) (aL.map a.eval) := RS_map_ev aL fun X hX => hT X (by simp [Op.operands, Call.operands, hX])
  have h50 : RS m (first ++ aL.map (ev T) ++ cap) (fs ++ aL.map a.eval ++ cs) := RS_append (RS_append h2 h4) h3
  have h5 : RS m.noat (first ++ aL.map (ev T) ++ cap) (fs ++ aL.map a.eval ++ cs) := RS_noId (m := m) (m' := m.noat) (fun _ _ h => h) _ _ hn h50
  have h6 := hS.run (n - 1) m.noat w _ hM.free h5
  obtain ⟨fn, hfn, hbody, hname⟩ := hS.code
  obtain ⟨c0, hb0⟩ := Option.isSome_iff_exists.1 hbody
  have hname' : ¬ fn.name = "runtime.NumGoroutine" := by simpa using hname
  have hrun : (execOp a.eval ⟨d, .call { callee := .value F, args := aL.toArray, argTypes := ats }, ty, pos, af, g⟩).run E.P w = .ok (.enter f (fs ++ aL.map a.eval ++ cs).toArray) w := by
    simp [execOp, resolve, h1, Deferred.ofValue, invoke, callFunc, program, Sem.run, hfn, hname', hb0]
  refine ⟨fun _ _ => trivial, ?_⟩
  rw [Oper.semAt_eq _ _ _ (by simp), hrun]
  refine ⟨fun h => by simp [Wf] at h, ?_⟩
  have h7 : ∀ R, CallsIn Fence.wide (n - 1) E.P f (fs ++ aL.map a.eval ++ cs).toArray w R → CallsIn (Wf r) (n - 1) E.P f (fs ++ aL.map a.eval ++ cs).toArray w R := by
    cases r with
    | none => exact fun _ h => h
    | some l => exact fun _ h => CallsIn.inRound l h
  refine (h7 _ h6).mono fun e w' ⟨u, rr, Hc, mc, he, hq, hle, hC, hR⟩ => ?_
  subst he hq
  obtain ⟨hle', hM'⟩ := hM.afterPure hle hC
  exact hK _ u w' hle' hM' (R_noId (m := mc) (m' := ⟨mc.ro, m.at_⟩) (fun _ _ h => h) _ _ hv hR)
end
end Go.Proofs.YtfbjoamdkieamaaGreat.AM
end

section
set_option linter.unusedSimpArgs false
set_option linter.unusedVariables false
namespace Go.Proofs.YtfbjoamdkieamaaGreat.AM
open Go

mutual
def AV.ren (ρ : Nat → Nat) : AV → AV
  | .ptr id w i o => .ptr (ρ id) w i o
  | .sl c id w off len => .sl c (ρ id) w off len
  | .omap id => .omap (ρ id)
  | .yld id => .yld (ρ id)
  | .agg cs => .agg (AV.rens ρ cs)
  | .tuple cs => .tuple (AV.rens ρ cs)
  | .fn f a b => .fn f (AV.rens ρ a) (AV.rens ρ b)
  | .junk => .junk
  | .int k n => .int k n
  | .bool b => .bool b
  | .raw v => .raw v
  | .list c w l => .list c w l
  | .ref x o => .ref x o
def AV.rens (ρ : Nat → Nat) : List AV → List AV
  | [] => []
  | x :: r => x.ren ρ :: AV.rens ρ r
end
mutual
def AV.idsIn (S : List Nat) : AV → Bool
  | .ptr id .. | .sl _ id .. | .omap id | .yld id => S.contains id
  | .agg cs => AV.idsIns S cs
  | .tuple cs => AV.idsIns S cs
  | .fn _ a b => AV.idsIns S a && AV.idsIns S b
  | _ => true
def AV.idsIns (S : List Nat) : List AV → Bool
  | [] => true
  | x :: r => x.idsIn S && AV.idsIns S r
end

section
variable {m m' : Mem} {ρ : Nat → Nat} {S : List Nat}
mutual
theorem R_ren (hro : ∀ b o, m.ro b = some o → m'.ro b = some o) (hat : ∀ i x, S.contains i = true → m.at_ (ρ i) = some x → m'.at_ i = some x) : ∀ (x : AV) (v : Value), x.idsIn S = true → R m (x.ren ρ) v → R m' x v
  | .junk, _, _, _ => trivial
  | .int _ _, _, _, h => h
  | .bool _, _, _, h => h
  | .raw _, _, _, h => h
  | .list c w l, v, _, h => R_noId hro (.list c w l) v rfl h
  | .ref x o, v, _, h => R_noId hro (.ref x o) v rfl h
  | .agg cs, v, hn, ⟨vs, h1, h2⟩ => ⟨vs, h1, RS_ren hro hat cs vs (by simpa only [AV.idsIn] using hn) h2⟩
  | .tuple cs, v, hn, ⟨vs, h1, h2⟩ => ⟨vs, h1, RS_ren hro hat cs vs (by simpa only [AV.idsIn] using hn) h2⟩
  | .ptr id w i o, v, hn, ⟨L, h1, h2⟩ => ⟨L, hat id _ (by simpa only [AV.idsIn] using hn) h1, h2⟩
  | .sl c id w off len, v, hn, ⟨ol, h1, h2⟩ => ⟨ol, hat id _ (by simpa only [AV.idsIn] using hn) h1, h2⟩
  | .omap id, v, hn, ⟨L, h1, h2⟩ => ⟨L, hat id _ (by simpa only [AV.idsIn] using hn) h1, h2⟩
  | .yld id, v, hn, ⟨L, h1, h2⟩ => ⟨L, hat id _ (by simpa only [AV.idsIn] using hn) h1, h2⟩
  | .fn f a b, v, hn, ⟨fs, cs, h1, h2, h3⟩ => by
      simp only [AV.idsIn, Bool.and_eq_true] at hn
      exact ⟨fs, cs, h1, RS_ren hro hat a fs hn.1 h2, RS_ren hro hat b cs hn.2 h3⟩
theorem RS_ren (hro : ∀ b o, m.ro b = some o → m'.ro b = some o) (hat : ∀ i x, S.contains i = true → m.at_ (ρ i) = some x → m'.at_ i = some x) : ∀ (xs : List AV) (vs : List Value), AV.idsIns S xs = true → RS m (AV.rens ρ xs) vs → RS m' xs vs
  | [], _, _, h => h
  | x :: r, _, hn, ⟨v, vs', h1, h2, h3⟩ => by
      simp only [AV.idsIns, Bool.and_eq_true] at hn
      exact ⟨v, vs', h1, R_ren hro hat x v hn.1 h2, RS_ren hro hat r vs' hn.2 h3⟩
end
end

theorem RRow_mem {m m' : Mem} {arr : Array Value} {w : Nat} : ∀ {l l' : List AV} {o : Nat}, l.length = l'.length → (∀ i, i < l.length → ∀ v, R m (l.getD i .junk) v → R m' (l'.getD i .junk) v) → RRow m arr w o l → RRow m' arr w o l' := by
  intro l l' o hl h hr
  rw [RRow_iff] at *
  intro i hi
  obtain ⟨u, h1, h2⟩ := hr i (by omega)
  exact ⟨u, h i (by omega) u h1, h2⟩

def Wks : List AV → List AV → Prop
  | [], l => l = []
  | x :: r, l => ∃ y l', l = y :: l' ∧ Wk x y ∧ Wks r l'
theorem Wks.nil : Wks [] [] := rfl
theorem Wks.cons {x y : AV} {r l : List AV} (h : Wk x y) (h' : Wks r l) : Wks (x :: r) (y :: l) := ⟨y, l, rfl, h, h'⟩
theorem Wks.refl : ∀ l : List AV, Wks l l
  | [] => rfl
  | x :: r => ⟨x, r, rfl, Wk.refl x, Wks.refl r⟩

/-- The elements of an object under other names. -/
inductive Elems (ρ : Nat → Nat) (S : List Nat) : List AV → List AV → Prop where
  | same (l : List AV) (h : ∀ x ∈ l, x.noId = true) : Elems ρ S l l
  | ren {l l' : List AV} (h : Wks l (AV.rens ρ l')) (hn : AV.idsIns S l' = true) : Elems ρ S l l'

theorem Wks.get : ∀ {l l' : List AV}, Wks l l' → l.length = l'.length ∧ ∀ i, Wk (l.getD i .junk) (l'.getD i .junk)
  | [], _, h => by rw [show _ = [] from h]; exact ⟨rfl, fun i => Wk.refl _⟩
  | x :: r, _, ⟨y, l', rfl, h1, h2⟩ => by
    obtain ⟨h3, h4⟩ := Wks.get h2
    refine ⟨by simp [h3], fun i => ?_⟩
    cases i with
    | zero => exact h1
    | succ i => simpa using h4 i

theorem rens_get (ρ : Nat → Nat) : ∀ (l : List AV) (i : Nat), (AV.rens ρ l).length = l.length ∧ (AV.rens ρ l).getD i .junk = (l.getD i .junk).ren ρ
  | [], i => ⟨rfl, by simp [AV.rens, AV.ren]⟩
  | x :: r, 0 => ⟨by simp [AV.rens, (rens_get ρ r 0).1], by simp [AV.rens]⟩
  | x :: r, i + 1 => ⟨by simp [AV.rens, (rens_get ρ r 0).1], by simpa [AV.rens] using (rens_get ρ r i).2⟩

theorem idsIns_get {S : List Nat} : ∀ {l : List AV} (_ : AV.idsIns S l = true) (i : Nat), (l.getD i .junk).idsIn S = true
  | [], _, i => by simp [AV.idsIn]
  | x :: r, h, 0 => by simp only [AV.idsIns, Bool.and_eq_true] at h; simpa using h.1
  | x :: r, h, i + 1 => by simp only [AV.idsIns, Bool.and_eq_true] at h; simpa using idsIns_get h.2 i

theorem Elems.row {m m' : Mem} {ρ : Nat → Nat} {S : List Nat} (hro : ∀ b o, m.ro b = some o → m'.ro b = some o) (hat : ∀ i x, S.contains i = true → m.at_ (ρ i) = some x → m'.at_ i = some x) {l l' : List AV} (h : Elems ρ S l l')
    {arr : Array Value} {w o : Nat} (hr : RRow m arr w o l) : l.length = l'.length ∧ RRow m' arr w o l' := by
  cases h with
  | same h =>
    refine ⟨rfl, RRow_mem rfl (fun i hi v hv => ?_) hr⟩
    refine R_noId hro _ v (h _ ?_) hv
    rw [List.getD_eq_getElem?_getD, List.getElem?_eq_getElem hi]
    exact List.getElem_mem hi
  | ren h hn =>
    obtain ⟨h1, h2⟩ := h.get
    have h3 := fun i => rens_get ρ l' i
    have hl : l.length = l'.length := by rw [h1, (h3 0).1]
    refine ⟨hl, RRow_mem hl (fun i hi v hv => ?_) hr⟩
    have h4 := h2 i m v hv
    rw [(h3 i).2] at h4
    exact R_ren hro hat _ v (idsIns_get hn i) h4

def entsNoId (es : List (AV × AV)) : Prop := ∀ p ∈ es, p.1.noId = true ∧ p.2.noId = true
theorem REnt.noId {m m' : Mem} (hro : ∀ b o, m.ro b = some o → m'.ro b = some o) : ∀ {k : Nat} {l : List (AV × AV)} {es : List MapEntry}, entsNoId l → REnt m k l es → REnt m' k l es
  | _, [], _, _, h' => h'
  | _, p :: r, _, hn, ⟨e, es', h1, h2, h3, h4, h5⟩ => ⟨e, es', h1, h2, R_noId hro _ _ (hn p (by simp)).1 h3, R_noId hro _ _ (hn p (by simp)).2 h4, REnt.noId hro (fun q hq => hn q (by simp [hq])) h5⟩

def TmpsL (t : Nat → AV) (ρ : Nat → Nat) (S : List Nat) : List (Nat × AV) → Prop
  | [] => True
  | (i, v) :: r => (Wk (t i) (v.ren ρ) ∧ v.idsIn S = true) ∧ TmpsL t ρ S r
theorem TmpsL.get {t : Nat → AV} {ρ : Nat → Nat} {S : List Nat} : ∀ {l : List (Nat × AV)}, TmpsL t ρ S l → ∀ p ∈ l, Wk (t p.1) (p.2.ren ρ) ∧ p.2.idsIn S = true
  | [], _, p, hp => by simp at hp
  | (i, v) :: r, ⟨h1, h2⟩, p, hp => by
    rcases List.mem_cons.1 hp with rfl | hp
    · exact h1
    · exact TmpsL.get h2 p hp

theorem ofL_mem {α : Type} {d : α} : ∀ {l : List (Nat × α)} {i : Nat}, ofL d l i = d ∨ (i, ofL d l i) ∈ l
  | [], i => .inl rfl
  | (j, x) :: r, i => by
    have ih : ofL d r i = d ∨ (i, ofL d r i) ∈ r := ofL_mem
    have e : ofL d ((j, x) :: r) i = if i = j then x else ofL d r i := by
      by_cases h : i = j
      · subst h; simp [ofL, updL, upd]
      · simp only [ofL, updL]; rw [upd_ne _ _ _ _ h, if_neg h]
    rw [e]
    by_cases h : i = j
    · subst h; rw [if_pos rfl]; exact .inr (by simp)
    · rw [if_neg h]
      rcases ih with h' | h'
      · exact .inl h'
      · exact .inr (List.mem_cons_of_mem _ h')

/-- An object under other names. -/
inductive ObR (ρ : Nat → Nat) (S : List Nat) : HO → HO → Prop where
  | arr {t w : Nat} {l l' : List AV} (h : Elems ρ S l l') : ObR ρ S (.arr t w l) (.arr t w l')
  | map {es : List (AV × AV)} (h : entsNoId es) : ObR ρ S (.map es) (.map es)
  | iter {mid n : Nat} {seen : List Nat} (h : S.contains mid = true) : ObR ρ S (.iter (ρ mid) n seen) (.iter mid n seen)
  | loop {busy : Bool} {nt : Nat} {ps : Array Tmp} {asg body : Code} {tm tm' : List (Nat × AV)} (h : TmpsL (ofL .junk tm) ρ S tm') : ObR ρ S (.loop busy nt ps asg body tm) (.loop busy nt ps asg body tm')

theorem ObR.live {ρ : Nat → Nat} {S : List Nat} {o o' : HO} (h : ObR ρ S o o') : o.live = true ∧ o'.live = true := by cases h <;> exact ⟨rfl, rfl⟩
theorem ObR.ok {m m' : Mem} {w : World} {ρ : Nat → Nat} {S : List Nat} {i : Nat} {o o' : HO} (hro : ∀ b o, m.ro b = some o → m'.ro b = some o) (hat : ∀ i x, S.contains i = true → m.at_ (ρ i) = some x → m'.at_ i = some x) (hi : S.contains i = true)
    (h : ObR ρ S o o') (ho : HOok m w (ρ i) o) : HOok m' w i o' := by
  cases h with
  | arr h3 =>
    obtain ⟨ol, h4, h5, h6⟩ := ho
    refine ⟨ol, hat i _ hi h4, fun h => ?_, fun L hL => ?_⟩
    · have := h5 h
      subst this
      exact List.eq_nil_of_length_eq_zero (h3.row (arr := #[]) (w := 0) (o := 0) hro hat trivial).1.symm
    · obtain ⟨cs, h7, h8, h9, h10⟩ := h6 L hL
      obtain ⟨h11, h12⟩ := h3.row hro hat h10
      exact ⟨cs, h7, h8, by omega, h12⟩
  | map hn =>
    obtain ⟨L, h1, ents, h2, h3⟩ := ho
    exact ⟨L, hat i _ hi h1, ents, h2, h3.noId hro hn⟩
  | iter hm =>
    obtain ⟨L, Lm, h1, h2, h3⟩ := ho
    exact ⟨L, Lm, hat i _ hi h1, hat _ _ hm h2, h3⟩
  | loop ht =>
    obtain ⟨L, r, h1, h2, h3⟩ := ho
    refine ⟨L, r, hat i _ hi h1, h2, h3.1, h3.2.1, h3.2.2.1, h3.2.2.2.1, h3.2.2.2.2.1, h3.2.2.2.2.2.1, fun j => ?_⟩
    have hj := h3.2.2.2.2.2.2 j
    rename_i tm tm'
    rcases ofL_mem (d := AV.junk) (l := tm') (i := j) with h | h
    · rw [h]; trivial
    · obtain ⟨h4, h5⟩ := ht.get _ h
      exact R_ren hro hat _ _ h5 (h4 m _ hj)

/-- Objects under other names: those of the list 'objs', where 'ρ' tells the old name of each. -/
def ObjsOK (s : AS) (ρ : Nat → Nat) (S : List Nat) : List (Nat × HO) → Prop
  | [] => True
  | (i, .arr t w l') :: r => (∃ l, s.h (ρ i) = .arr t w l ∧ Elems ρ S l l') ∧ ObjsOK s ρ S r
  | (i, .map es) :: r => (s.h (ρ i) = .map es ∧ entsNoId es) ∧ ObjsOK s ρ S r
  | (i, .iter mid n seen) :: r => (s.h (ρ i) = .iter (ρ mid) n seen ∧ S.contains mid = true) ∧ ObjsOK s ρ S r
  | (i, .loop busy nt ps asg body tm') :: r => (∃ tm, s.h (ρ i) = .loop busy nt ps asg body tm ∧ TmpsL (ofL .junk tm) ρ S tm') ∧ ObjsOK s ρ S r
  | (_, .dead) :: r => ObjsOK s ρ S r
  | (_, .free) :: _ => False

def TmpsOK (s : AS) (ρ : Nat → Nat) (S : List Nat) : List (Nat × AV) → Prop
  | [] => True
  | (i, v) :: r => (Wk (s.t i) (v.ren ρ) ∧ v.idsIn S = true) ∧ TmpsOK s ρ S r

theorem ofL_in {α : Type} {d : α} : ∀ {l : List (Nat × α)} {i : Nat}, i ∈ l.map (·.1) → (i, ofL d l i) ∈ l
  | [], i, h => by simp at h
  | (j, x) :: r, i, h => by
    have e : ofL d ((j, x) :: r) i = if i = j then x else ofL d r i := by
      by_cases h : i = j
      · subst h; simp [ofL, updL, upd]
      · simp only [ofL, updL]; rw [upd_ne _ _ _ _ h, if_neg h]
    rw [e]
    by_cases hij : i = j
    · subst hij; rw [if_pos rfl]; simp
    · rw [if_neg hij]
      have : i ∈ r.map (·.1) := by simpa [hij] using h
      exact List.mem_cons_of_mem _ (ofL_in this)

theorem TmpsOK.get {s : AS} {ρ : Nat → Nat} {S : List Nat} : ∀ {l : List (Nat × AV)}, TmpsOK s ρ S l → ∀ p ∈ l, Wk (s.t p.1) (p.2.ren ρ) ∧ p.2.idsIn S = true
  | [], _, p, hp => by simp at hp
  | (i, v) :: r, ⟨h1, h2⟩, p, hp => by
    rcases List.mem_cons.1 hp with rfl | hp
    · exact h1
    · exact TmpsOK.get h2 p hp
theorem ObjsOK.get {s : AS} {ρ : Nat → Nat} {S : List Nat} : ∀ {l : List (Nat × HO)}, ObjsOK s ρ S l → ∀ p ∈ l, p.2 = .dead ∨ ObR ρ S (s.h (ρ p.1)) p.2
  | [], _, p, hp => by simp at hp
  | (i, .arr t w l') :: r, ⟨⟨l, h0, h1⟩, h2⟩, p, hp => by
    rcases List.mem_cons.1 hp with rfl | hp
    · exact .inr (by dsimp only; rw [h0]; exact .arr h1)
    · exact ObjsOK.get h2 p hp
  | (i, .map es) :: r, ⟨⟨h0, h1⟩, h2⟩, p, hp => by
    rcases List.mem_cons.1 hp with rfl | hp
    · exact .inr (by dsimp only; rw [h0]; exact .map h1)
    · exact ObjsOK.get h2 p hp
  | (i, .iter mid n seen) :: r, ⟨⟨h0, h1⟩, h2⟩, p, hp => by
    rcases List.mem_cons.1 hp with rfl | hp
    · exact .inr (by dsimp only; rw [h0]; exact .iter h1)
    · exact ObjsOK.get h2 p hp
  | (i, .loop busy nt ps asg body tm') :: r, ⟨⟨tm, h0, h1⟩, h2⟩, p, hp => by
    rcases List.mem_cons.1 hp with rfl | hp
    · exact .inr (by dsimp only; rw [h0]; exact .loop h1)
    · exact ObjsOK.get h2 p hp
  | (i, .dead) :: r, h, p, hp => by
    rcases List.mem_cons.1 hp with rfl | hp
    · exact .inl rfl
    · exact ObjsOK.get (l := r) h p hp
  | (i, .free) :: r, h, p, hp => h.elim

def lk (l : List (Nat × Nat)) (i : Nat) : Nat :=
  match l with
  | [] => i
  | (j, k) :: r => bif i == j then k else lk r i

/-- No two of the names are one. -/
def inj (ρ : Nat → Nat) (S : List Nat) : Bool := S.all fun i => S.all fun j => i == j || !(ρ i == ρ j)

theorem inj_iff {ρ : Nat → Nat} {S : List Nat} (h : inj ρ S = true) {i j : Nat} (hi : i ∈ S) (hj : j ∈ S) (he : ρ i = ρ j) : i = j := by
  simp only [inj, List.all_eq_true, Bool.or_eq_true, beq_iff_eq, Bool.not_eq_true', beq_eq_false_iff_ne] at h
  rcases h i hi j hj with h | h
  · exact h
  · exact absurd he h

def keptOK (k : List Nat) (ρ : Nat → Nat) (S : List Nat) : Bool := k.all fun i => S.contains i && ρ i == i

theorem AS.sub.mk' {s : AS} (tm : List (Nat × AV)) (objs : List (Nat × HO)) (ρ : Nat → Nat) (hinj : inj ρ ((objs.filter fun p => p.2.live).map (·.1)) = true) (hk : keptOK s.k ρ (objs.map (·.1)) = true) (ht : TmpsOK s ρ (objs.map (·.1)) tm)
    (ho : ObjsOK s ρ (objs.map (·.1)) objs) : s.sub ⟨ofL .junk tm, ofL .free objs, s.k⟩ := by
  refine ⟨fun X nt a w ⟨m, hD⟩ => ?_⟩
  have hlk : ∀ i, (ofL HO.free objs i).live = true → i ∈ (objs.filter fun p => p.2.live).map (·.1) := by
    intro i h
    rcases ofL_mem (d := HO.free) (l := objs) (i := i) with h' | h'
    · rw [h'] at h; simp [HO.live] at h
    · exact List.mem_map.2 ⟨_, List.mem_filter.2 ⟨h', h⟩, rfl⟩
  generalize hS : objs.map (·.1) = S at *
  let m' : Mem := ⟨m.ro, fun i => if S.contains i = true then m.at_ (ρ i) else none⟩
  have hro : ∀ b o, m.ro b = some o → m'.ro b = some o := fun _ _ h => h
  have hat : ∀ i x, S.contains i = true → m.at_ (ρ i) = some x → m'.at_ i = some x := fun i x hi h => by simp only [m', hi, if_true]; exact h
  have hin : ∀ i, ofL HO.free objs i ≠ .free → i ∈ S := by
    intro i h
    rcases ofL_mem (d := HO.free) (l := objs) (i := i) with h' | h'
    · exact absurd h' h
    · rw [← hS]; exact List.mem_map.2 ⟨_, h', rfl⟩
  have hlive : ∀ i, (ofL HO.free objs i).live = true → i ∈ S ∧ ObR ρ S (s.h (ρ i)) (ofL HO.free objs i) := by
    intro i h
    have h0 : ofL HO.free objs i ≠ .free := by intro h'; rw [h'] at h; simp [HO.live] at h
    refine ⟨hin i h0, ?_⟩
    rcases ofL_mem (d := HO.free) (l := objs) (i := i) with h' | h'
    · exact absurd h' h0
    · rcases ho.get _ h' with h2 | h2
      · simp only at h2; rw [h2] at h; simp [HO.live] at h
      · exact h2
  have hold : ∀ i L, (ofL HO.free objs i).live = true → m'.at_ i = some (some L) → (s.h (ρ i)).live = true ∧ m.at_ (ρ i) = some (some L) := by
    intro i L hl hL
    obtain ⟨hi, h2⟩ := hlive i hl
    have hc : S.contains i = true := by simpa using hi
    simp only [m', hc, if_true] at hL
    exact ⟨h2.live.1, hL⟩
  refine ⟨m', hD.size, hD.defers.mono hro, ⟨hD.le.ro, fun i x hx => ?_⟩, hD.ids, fun i => ?_, ?_⟩
  · have hik := hD.ids i x hx
    simp only [keptOK, List.all_eq_true, Bool.and_eq_true, beq_iff_eq] at hk
    obtain ⟨h1, h2⟩ := hk i hik
    exact hat i x h1 (by rw [h2]; exact hD.le.at_ i x hx)
  · rcases ofL_mem (d := AV.junk) (l := tm) (i := i) with h | h
    · show R m' (ofL .junk tm i) _
      rw [h]; trivial
    · obtain ⟨h1, h2⟩ := ht.get _ h
      exact R_ren hro hat _ _ h2 (h1 m _ (hD.tmps i))
  · have hM := hD.mem
    exact {
      os := hM.os
      tape := hM.tape
      output := hM.output
      size := hM.size
      block := hM.block
      ro := hM.ro
      told := hM.told
      obj := fun i => by
        show HOok m' w i (ofL HO.free objs i)
        by_cases hl : (ofL HO.free objs i).live = true
        · obtain ⟨hi, h1⟩ := hlive i hl
          exact h1.ok hro hat (by simpa using hi) (hM.obj (ρ i))
        · cases ho' : ofL HO.free objs i with
          | free =>
            show m'.at_ i = none
            have : S.contains i = false := by
              cases hc : S.contains i
              · rfl
              · have hi : i ∈ S := by simpa using hc
                rw [← hS] at hi
                rcases ho.get _ (ofL_in (d := HO.free) hi) with h | h
                · simp only at h; rw [h] at ho'; cases ho'
                · have := h.live.2; simp only at this; rw [ho'] at this; simp [HO.live] at this
            simp only [m', this, Bool.false_eq_true, if_false]
          | dead => trivial
          | arr t w l => rw [ho'] at hl; simp [HO.live] at hl
          | map es => rw [ho'] at hl; simp [HO.live] at hl
          | iter mid n seen => rw [ho'] at hl; simp [HO.live] at hl
          | loop busy nt ps asg body tm => rw [ho'] at hl; simp [HO.live] at hl
      mine := fun i L hl hL => hM.mine (ρ i) L (hold i L hl hL).1 (hold i L hl hL).2
      apart := fun i j L L' hij hl hl' hL hL' => by
        refine hM.apart (ρ i) (ρ j) L L' (fun h => hij (inj_iff hinj (hlk i hl) (hlk j hl') h)) (hold i L hl hL).1 (hold j L' hl' hL').1 (hold i L hl hL).2 (hold j L' hl' hL').2 }
end Go.Proofs.YtfbjoamdkieamaaGreat.AM
end

section
set_option linter.unusedSimpArgs false
set_option linter.unusedVariables false
namespace Go.Proofs.YtfbjoamdkieamaaGreat.AM
open Go
def TK.known : TK → Bool
  | .other => false
  | _ => true
theorem TK.known_ne {k : TK} (h : k.known = true) : k ≠ .other := by intro h'; rw [h'] at h; cases h
section
variable {E : Env} {T : Nat → AV} {H : Nat → HO} {d : Option Tmp} {ty : TypeId} {pos : String} {af : Array Edge} {g : Option (Nat × Bool)}

theorem OpL.mv {X : Operand} {v : AV} (hv : ev T X = v) : OpL E ⟨d, .move X, ty, pos, af, g⟩ T H [] [] v := hv ▸ OpL.move
theorem OpL.asg {X : Operand} {v : AV} (hv : ev T X = v) : OpL E ⟨d, .assign X, ty, pos, af, g⟩ T H [] [] v := hv ▸ OpL.assign
theorem OpL.nilc {X : Operand} {v : AV} (hv : ev T X = v) (h : nilOK v = true) : OpL E ⟨d, .nilCheck X, ty, pos, af, g⟩ T H [] [] v := by
  subst hv; exact OpL.nilCheck h
theorem OpL.ext {X : Operand} {vs : List AV} {i : Nat} {v : AV} (hx : ev T X = .tuple vs) (hv : vs[i]? = some v) : OpL E ⟨d, .extract X i, ty, pos, af, g⟩ T H [] [] v := by
  have hi : i < vs.length := (List.getElem?_eq_some_iff.1 hv).1
  have := OpL.extract (E := E) (T := T) (H := H) (d := d) (ty := ty) (pos := pos) (af := af) (g := g) hx (Nat.ble_eq_true_of_le hi)
  rwa [List.getD_eq_getElem?_getD, hv] at this

/-- A load of one cell. -/
theorem OpL.ldc {t o : Nat} {X : Operand} {x v : AV} {td : TD} (hx : ev T X = .ref x o) (ht : E.td t = td) (hk : td.kind.known = true) (ha : td.kind.isAgg = false) (hp : x.plain = true) (hv : x.cells[o]? = some v) :
    OpL E ⟨d, .load t X, ty, pos, af, g⟩ T H [] [] v := by
  subst ht
  have ho : o < x.cells.length := (List.getElem?_eq_some_iff.1 hv).1
  have := OpL.load_ref (E := E) (H := H) (d := d) (ty := ty) (pos := pos) (af := af) (g := g) hx (LoadV.cell (TK.known_ne hk) ha hp ho)
  rwa [List.getD_eq_getElem?_getD, hv] at this
/-- A load of the whole. -/
theorem OpL.ldw {t : Nat} {X : Operand} {x : AV} {cs : List AV} {td : TD} (hx : ev T X = .ref x 0) (ht : E.td t = td) (hk : td.kind.known = true) (ha : td.kind.isAgg = true) (hc : x = .agg cs) (hl : cs.length = td.size) :
    OpL E ⟨d, .load t X, ty, pos, af, g⟩ T H [] [] x := by
  subst ht
  exact OpL.load_ref hx (LoadV.whole (TK.known_ne hk) ha cs hc hl rfl)
/-- A load of a part. -/
theorem OpL.ldp {t o : Nat} {X : Operand} {x : AV} {cs : List AV} {td : TD} (hx : ev T X = .ref x o) (ht : E.td t = td) (hk : td.kind.known = true) (ha : td.kind.isAgg = true) (hp : x.plain = true) (ho : Nat.ble (o + td.size) x.cells.length = true)
    (hc : (x.cells.drop o).take td.size = cs) : OpL E ⟨d, .load t X, ty, pos, af, g⟩ T H [] [] (.agg cs) := by
  subst ht hc
  exact OpL.load_ref hx (LoadV.part (TK.known_ne hk) ha hp (Nat.le_of_ble_eq_true ho))

theorem OpL.ldc_p {t o tt w i id : Nat} {X : Operand} {x v : AV} {l : List AV} {td : TD} (hx : ev T X = .ptr id w i o) (hH : H id = .arr tt w l) (hi : l[i]? = some x) (ht : E.td t = td) (hk : td.kind.known = true) (ha : td.kind.isAgg = false)
    (hp : x.plain = true) (hv : x.cells[o]? = some v) : OpL E ⟨d, .load t X, ty, pos, af, g⟩ T H [id] [] v := by
  subst ht
  have ho : o < x.cells.length := (List.getElem?_eq_some_iff.1 hv).1
  have hi' : i < l.length := (List.getElem?_eq_some_iff.1 hi).1
  have hx' : l.getD i .junk = x := by rw [List.getD_eq_getElem?_getD, hi]; rfl
  have := OpL.load_ptr (E := E) (d := d) (ty := ty) (pos := pos) (af := af) (g := g) hx hH rfl hi' (by rw [hx']; exact LoadV.cell (TK.known_ne hk) ha hp ho)
  rwa [List.getD_eq_getElem?_getD, hv] at this
theorem OpL.ldw_p {t tt w i id : Nat} {X : Operand} {x : AV} {l cs : List AV} {td : TD} (hx : ev T X = .ptr id w i 0) (hH : H id = .arr tt w l) (hi : l[i]? = some x) (ht : E.td t = td) (hk : td.kind.known = true) (ha : td.kind.isAgg = true)
    (hc : x = .agg cs) (hl : cs.length = td.size) : OpL E ⟨d, .load t X, ty, pos, af, g⟩ T H [id] [] x := by
  subst ht
  have hi' : i < l.length := (List.getElem?_eq_some_iff.1 hi).1
  have hx' : l.getD i .junk = x := by rw [List.getD_eq_getElem?_getD, hi]; rfl
  exact OpL.load_ptr hx hH rfl hi' (by rw [hx']; exact LoadV.whole (TK.known_ne hk) ha cs hc hl rfl)
theorem OpL.ldp_p {t o tt w i id : Nat} {X : Operand} {x : AV} {l cs : List AV} {td : TD} (hx : ev T X = .ptr id w i o) (hH : H id = .arr tt w l) (hi : l[i]? = some x) (ht : E.td t = td) (hk : td.kind.known = true) (ha : td.kind.isAgg = true)
    (hp : x.plain = true) (ho : Nat.ble (o + td.size) x.cells.length = true) (hc : (x.cells.drop o).take td.size = cs) : OpL E ⟨d, .load t X, ty, pos, af, g⟩ T H [id] [] (.agg cs) := by
  subst ht hc
  have hi' : i < l.length := (List.getElem?_eq_some_iff.1 hi).1
  have hx' : l.getD i .junk = x := by rw [List.getD_eq_getElem?_getD, hi]; rfl
  exact OpL.load_ptr hx hH rfl hi' (by rw [hx']; exact LoadV.part (TK.known_ne hk) ha hp (Nat.le_of_ble_eq_true ho))

theorem OpL.fld {s : TypeId} {X : Operand} {x : AV} {o o' i off ft : Nat} {fs : List (Nat × Nat)} {td : TD} (hx : ev T X = .ref x o) (hk : (E.td s).kind = .struct fs) (hf : fs[i]? = some (off, ft)) (ht : E.td ft = td)
    (h1 : td.kind.known = true) (h0 : Nat.beq td.size 0 = false) (ho : o + off = o') : OpL E ⟨d, .fieldAddr s X i, ty, pos, af, g⟩ T H [] [] (.ref x o') := by
  subst ho ht; exact OpL.field_ref hx hk hf (TK.known_ne h1) (by intro h; rw [h] at h0; cases h0)
theorem OpL.fld_p {s : TypeId} {X : Operand} {id w k o o' i off ft : Nat} {fs : List (Nat × Nat)} {td : TD} (hx : ev T X = .ptr id w k o) (hk : (E.td s).kind = .struct fs) (hf : fs[i]? = some (off, ft)) (ht : E.td ft = td)
    (h1 : td.kind.known = true) (h0 : Nat.beq td.size 0 = false) (ho : o + off = o') : OpL E ⟨d, .fieldAddr s X i, ty, pos, af, g⟩ T H [] [] (.ptr id w k o') := by
  subst ho ht; exact OpL.field_ptr hx hk hf (TK.known_ne h1) (by intro h; rw [h] at h0; cases h0)

/-- An index into a slice that reads as the image of a list. -/
theorem OpL.idx {α : Type} [Inhabited α] {t : TypeId} {X I : Operand} {c : Bool} {w e : Nat} {xs : List α} {f : α → AV} {k : IntKind} {n : Int} {i : Nat} {td : TD} (hx : ev T X = .list c w (xs.map f)) (hI : ev T I = .int k n) (hn : n = (i : Int))
    (hk : (E.td t).kind = .slice e) (ht : E.td e = td) (he : td.kind.known = true) (hw : td.size = w) (hi : i < xs.length) : OpL E ⟨d, .indexAddr t X I, ty, pos, af, g⟩ T H [] [] (.ref (f (xs.getD i default)) 0) := by
  subst ht
  have := OpL.index_list (E := E) (H := H) (d := d) (ty := ty) (pos := pos) (af := af) (g := g) hx hI hn hk (TK.known_ne he) hw (by simpa using hi)
  have e2 : (xs.map f).getD i .junk = f (xs.getD i default) := by simp [List.getD_eq_getElem?_getD, List.getElem?_map, List.getElem?_eq_getElem hi]
  rwa [e2] at this
theorem OpL.idx_s {t : TypeId} {X I : Operand} {c : Bool} {id w off len e : Nat} {k : IntKind} {n : Int} {i j : Nat} {td : TD} (hx : ev T X = .sl c id w off len) (hI : ev T I = .int k n) (hn : n = (i : Int))
    (hk : (E.td t).kind = .slice e) (ht : E.td e = td) (he : td.kind.known = true) (hw : td.size = w) (hj : off + i = j) (hi : i < len) : OpL E ⟨d, .indexAddr t X I, ty, pos, af, g⟩ T H [] [] (.ptr id w j 0) := by
  subst ht hj; exact OpL.index_sl hx hI hn hk (TK.known_ne he) hw hi

theorem OpL.len {X : Operand} {t e : TypeId} {c : Bool} {w : Nat} {α : Type} {l : List α} {f : α → AV} (hx : ev T X = .list c w (l.map f)) (hk : (E.td t).kind = .slice e) :
    OpL E ⟨d, .call { callee := .builtin .len, args := #[X], argTypes := #[t] }, ty, pos, af, g⟩ T H [] [] (.int .i64 (l.length : Int)) := by
  have := OpL.len_list (E := E) (H := H) (d := d) (ty := ty) (pos := pos) (af := af) (g := g) hx hk
  rwa [List.length_map] at this
theorem OpL.len_s {X : Operand} {t e : TypeId} {c : Bool} {id w off len : Nat} (hx : ev T X = .sl c id w off len) (hk : (E.td t).kind = .slice e) :
    OpL E ⟨d, .call { callee := .builtin .len, args := #[X], argTypes := #[t] }, ty, pos, af, g⟩ T H [] [] (.int .i64 (len : Int)) := OpL.len_sl hx hk

/-- A sum of ints that does not wrap. -/
theorem wrap_i64 {n : Int} (h : -9223372036854775808 ≤ n) (h' : n ≤ 9223372036854775807) : IntKind.i64.wrap n = n := by
  simp only [IntKind.wrap, IntKind.signed, IntKind.bits]
  simp
  omega
theorem OpL.add {t yt : TypeId} {X Y : Operand} {x y : Int} (hx : ev T X = .int .i64 x) (hy : ev T Y = .int .i64 y) (h : -9223372036854775808 ≤ x + y ∧ x + y ≤ 9223372036854775807) :
    OpL E ⟨d, .binOp .add t X Y yt, ty, pos, af, g⟩ T H [] [] (.int .i64 (x + y)) := by
  have := OpL.arith (E := E) (H := H) (d := d) (ty := ty) (pos := pos) (af := af) (g := g) (op := .add) (t := t) (yt := yt) hx hy rfl
  rwa [wrap_i64 h.1 h.2] at this
theorem OpL.sub {t yt : TypeId} {X Y : Operand} {x y : Int} (hx : ev T X = .int .i64 x) (hy : ev T Y = .int .i64 y) (h : -9223372036854775808 ≤ x - y ∧ x - y ≤ 9223372036854775807) :
    OpL E ⟨d, .binOp .sub t X Y yt, ty, pos, af, g⟩ T H [] [] (.int .i64 (x - y)) := by
  have := OpL.arith (E := E) (H := H) (d := d) (ty := ty) (pos := pos) (af := af) (g := g) (op := .sub) (t := t) (yt := yt) hx hy rfl
  rwa [wrap_i64 h.1 h.2] at this
theorem OpL.mul {t yt : TypeId} {X Y : Operand} {x y : Int} (hx : ev T X = .int .i64 x) (hy : ev T Y = .int .i64 y) (h : -9223372036854775808 ≤ x * y ∧ x * y ≤ 9223372036854775807) :
    OpL E ⟨d, .binOp .mul t X Y yt, ty, pos, af, g⟩ T H [] [] (.int .i64 (x * y)) := by
  have := OpL.arith (E := E) (H := H) (d := d) (ty := ty) (pos := pos) (af := af) (g := g) (op := .mul) (t := t) (yt := yt) hx hy rfl
  rwa [wrap_i64 h.1 h.2] at this
end
section
variable {E : Env} {X : Ctx} {nt : Nat} {s : AS} {Q : Exit → AS → Prop}
/-- One operation: its slot gets v. -/
theorem GoOps.p {ops : Array Oper} {l : List Oper} {i : Nat} {op : Op} {ty : TypeId} {pos : String} {af : Array Edge} {t : Nat → AV} {h : Nat → HO} {k : List Nat} {rd : List Nat} {v : AV} {K : AS → Prop}
    (hop : OpL E ⟨some i, op, ty, pos, af, none⟩ t h rd [] v) (hK : GoOps E X nt ops l K ⟨upd t i v, h, k⟩) : GoOps E X nt ops (⟨some i, op, ty, pos, af, none⟩ :: l) K ⟨t, h, k⟩ := GoOps.op hop rfl hK
/-- One operation without a slot: the objects change. -/
theorem GoOps.n {ops : Array Oper} {l : List Oper} {op : Op} {ty : TypeId} {pos : String} {af : Array Edge} {t : Nat → AV} {h : Nat → HO} {k : List Nat} {rd : List Nat} {v : AV} {post : List (Nat × HO)} {K : AS → Prop}
    (hop : OpL E ⟨none, op, ty, pos, af, none⟩ t h rd post v) (hK : GoOps E X nt ops l K ⟨t, updL h post, k⟩) : GoOps E X nt ops (⟨none, op, ty, pos, af, none⟩ :: l) K ⟨t, h, k⟩ := GoOps.op hop rfl hK
/-- One operation that makes or changes objects. -/
theorem GoOps.m {ops : Array Oper} {l : List Oper} {i : Nat} {op : Op} {ty : TypeId} {pos : String} {af : Array Edge} {t : Nat → AV} {h : Nat → HO} {k : List Nat} {rd : List Nat} {v : AV} {post : List (Nat × HO)} {K : AS → Prop}
    (hop : OpL E ⟨some i, op, ty, pos, af, none⟩ t h rd post v) (hK : GoOps E X nt ops l K ⟨upd t i v, updL h post, k⟩) : GoOps E X nt ops (⟨some i, op, ty, pos, af, none⟩ :: l) K ⟨t, h, k⟩ := GoOps.op hop rfl hK
theorem GoOps.gp {ops : Array Oper} {l : List Oper} {i j dj : Nat} {want b : Bool} {op : Op} {ty : TypeId} {pos : String} {af : Array Edge} {t : Nat → AV} {h : Nat → HO} {k : List Nat} {rd : List Nat} {v : AV} {K : AS → Prop}
    (hj : (ops[j]?).bind (·.dst) = some dj) (hlt : Nat.blt dj nt = true) (hb : t dj = .bool b) (hbw : b = want)
    (hop : OpL E ⟨some i, op, ty, pos, af, some (j, want)⟩ t h rd [] v) (hK : GoOps E X nt ops l K ⟨upd t i v, h, k⟩) : GoOps E X nt ops (⟨some i, op, ty, pos, af, some (j, want)⟩ :: l) K ⟨t, h, k⟩ := GoOps.guard rfl hj hlt hb hbw hop hK
theorem GoOps.gs {ops : Array Oper} {l : List Oper} {i j dj : Nat} {want b : Bool} {op : Op} {ty : TypeId} {pos : String} {af : Array Edge} {t : Nat → AV} {h : Nat → HO} {k : List Nat} {K : AS → Prop}
    (hj : (ops[j]?).bind (·.dst) = some dj) (hlt : Nat.blt dj nt = true) (hb : t dj = .bool b) (hbw : b = !want)
    (hK : GoOps E X nt ops l K ⟨upd t i (.raw undef), h, k⟩) : GoOps E X nt ops (⟨some i, op, ty, pos, af, some (j, want)⟩ :: l) K ⟨t, h, k⟩ := GoOps.skip rfl hj hlt hb hbw hK
theorem GoOps.gj {ops : Array Oper} {l : List Oper} {i j dj : Nat} {want : Bool} {op : Op} {ty : TypeId} {pos : String} {af : Array Edge} {t : Nat → AV} {h : Nat → HO} {k : List Nat} {K : AS → Prop}
    (hj : (ops[j]?).bind (·.dst) = some dj) (hlt : Nat.blt dj nt = true) (hb : t dj = .raw undef)
    (hK : GoOps E X nt ops l K ⟨upd t i (.raw undef), h, k⟩) : GoOps E X nt ops (⟨some i, op, ty, pos, af, some (j, want)⟩ :: l) K ⟨t, h, k⟩ := GoOps.skipU rfl hj hlt hb hK
theorem GoC.cond_d {c : Operand} {x y : Code} {p : Prop} [Decidable p] (hc : ev s.t c = .bool (decide p)) (ht : p → GoC E X nt x Q s) (hf : ¬ p → GoC E X nt y Q s) : GoC E X nt (.cond c x y) Q s :=
  GoC.cond hc (fun h => ht (of_decide_eq_true h)) (fun h => hf (of_decide_eq_false h))
theorem GoC.cond_n {c : Operand} {x y : Code} {p : Prop} [Decidable p] (hc : ev s.t c = .bool (!decide p)) (ht : ¬ p → GoC E X nt x Q s) (hf : p → GoC E X nt y Q s) : GoC E X nt (.cond c x y) Q s :=
  GoC.cond hc (fun h => ht (of_decide_eq_false (by simpa using h))) (fun h => hf (of_decide_eq_true (by simpa using h)))
theorem GoC.cond_t {c : Operand} {x y : Code} (hc : ev s.t c = .bool true) (ht : GoC E X nt x Q s) : GoC E X nt (.cond c x y) Q s := GoC.cond hc (fun _ => ht) (fun h => by cases h)
theorem GoC.cond_f {c : Operand} {x y : Code} (hc : ev s.t c = .bool false) (hf : GoC E X nt y Q s) : GoC E X nt (.cond c x y) Q s := GoC.cond hc (fun h => by cases h) (fun _ => hf)
theorem Elems.of_eq {ρ : Nat → Nat} {S : List Nat} {l l' : List AV} (h : l = l') (hn : ∀ x ∈ l', x.noId = true) : Elems ρ S l l' := h ▸ Elems.same l (h ▸ hn)
theorem FnPost.one {rv : ResultVar} {v : AV} {K : AV → (Nat → HO) → Prop} {e : Exit} (he : e = .normal ∨ e = .ret) (hr : RetOK E s [rv] [v]) (hq : K v s.h) : FnPost E [rv] K e s := by
  rcases he with rfl | rfl <;> exact ⟨s, AS.sub.refl s, [v], hr, hq⟩
theorem gd {α : Type} {l : List α} {i : Nat} {d : α} (h : i < l.length) : l.getD i d = l[i] := by rw [List.getD_eq_getElem?_getD, List.getElem?_eq_getElem h]; rfl
theorem FnPost.many {rvs : List ResultVar} {vs : List AV} {K : AV → (Nat → HO) → Prop} {e : Exit} (he : e = .normal ∨ e = .ret) (hr : RetOK E s rvs vs) (hq : K (tup vs) s.h) : FnPost E rvs K e s := by
  rcases he with rfl | rfl <;> exact ⟨s, AS.sub.refl s, vs, hr, hq⟩
theorem FnPost.by {s' : AS} {rvs : List ResultVar} {vs : List AV} {K : AV → (Nat → HO) → Prop} {e : Exit} (he : e = .normal ∨ e = .ret) (hs : s.sub s') (hr : RetOK E s' rvs vs) (hq : K (tup vs) s'.h) : FnPost E rvs K e s := by
  rcases he with rfl | rfl <;> exact ⟨s', hs, vs, hr, hq⟩
end
end Go.Proofs.YtfbjoamdkieamaaGreat.AM
end

section
set_option linter.unusedSimpArgs false
set_option linter.unusedVariables false
namespace Go.Proofs.YtfbjoamdkieamaaGreat.AM
open Go

/-! ### What some of a list of writes leave -/
section
variable {α : Type}

def foldW (D : Nat → Bool) : List (List (Nat × α)) → Nat → (Nat → α) → (Nat → α)
  | [], _, f => f
  | w :: ws, k, f => foldW D ws (k + 1) (if D k then updL f w else f)

def keys (w : List (Nat × α)) : List Nat := w.map (·.1)

theorem updL_not {f : Nat → α} : ∀ {w : List (Nat × α)} {t : Nat}, t ∉ keys w → updL f w t = f t
  | [], _, _ => rfl
  | (i, x) :: r, t, h => by
    simp only [keys, List.map_cons, List.mem_cons, not_or] at h
    simp only [updL]
    rw [upd_ne _ _ _ _ h.1]
    exact updL_not h.2
theorem updL_in {f f' : Nat → α} : ∀ {w : List (Nat × α)} {t : Nat}, t ∈ keys w → updL f w t = updL f' w t
  | [], _, h => by simp [keys] at h
  | (i, x) :: r, t, h => by
    simp only [updL]
    by_cases hi : t = i
    · subst hi; rw [upd_same, upd_same]
    · rw [upd_ne _ _ _ _ hi, upd_ne _ _ _ _ hi]
      simp only [keys, List.map_cons, List.mem_cons] at h
      exact updL_in (h.resolve_left hi)

theorem foldW_eq {D D' : Nat → Bool} {t : Nat} : ∀ {ws : List (List (Nat × α))} {k : Nat} {f f' : Nat → α}, (∀ j w, ws[j]? = some w → t ∈ keys w → D (k + j) = D' (k + j)) → f t = f' t → foldW D ws k f t = foldW D' ws k f' t
  | [], _, _, _, _, h => h
  | w :: ws, k, f, f', hw, h => by
    simp only [foldW]
    refine foldW_eq (fun j w' hj ht => ?_) ?_
    · have := hw (j + 1) w' (by simpa using hj) ht
      rwa [show k + (j + 1) = k + 1 + j from by omega] at this
    · by_cases ht : t ∈ keys w
      · have := hw 0 w rfl ht
        rw [Nat.add_zero] at this
        rw [this]
        split
        · exact updL_in ht
        · exact h
      · split <;> split <;> first | rw [updL_not ht, updL_not ht]; exact h | rw [updL_not ht]; exact h | exact h

theorem foldW_last {D : Nat → Bool} {t : Nat} {w : List (Nat × α)} : ∀ {ws : List (List (Nat × α))} {k i : Nat} {f g : Nat → α}, ws[i]? = some w → D (k + i) = true → t ∈ keys w → (∀ j w', i < j → ws[j]? = some w' → t ∈ keys w' → D (k + j) = false) →
    foldW D ws k f t = updL g w t
  | [], _, _, _, _, h, _, _, _ => by simp at h
  | w0 :: ws, k, 0, f, g, h, hD, ht, hl => by
    simp at h
    subst h
    simp only [foldW]
    rw [Nat.add_zero] at hD
    rw [hD, if_pos rfl]
    have := foldW_eq (D := D) (D' := fun _ => false) (t := t) (ws := ws) (k := k + 1) (f := updL f w0) (f' := updL f w0) (fun j w' hj ht' => by
      have := hl (j + 1) w' (by omega) (by simpa using hj) ht'
      rwa [show k + (j + 1) = k + 1 + j from by omega] at this) rfl
    rw [this]
    have hnone : ∀ (ws : List (List (Nat × α))) (k : Nat) (f : Nat → α), foldW (fun _ => false) ws k f = f := by
      intro ws
      induction ws with
      | nil => intro k f; rfl
      | cons w ws ih => intro k f; simp only [foldW, Bool.false_eq_true, if_false]; exact ih _ _
    rw [hnone]
    exact updL_in ht
  | w0 :: ws, k, i + 1, f, g, h, hD, ht, hl => by
    simp only [foldW]
    refine foldW_last (i := i) (by simpa using h) (by rwa [show k + 1 + i = k + (i + 1) from by omega]) ht fun j w' hij hj ht' => ?_
    have := hl (j + 1) w' (by omega) (by simpa using hj) ht'
    rwa [show k + (j + 1) = k + 1 + j from by omega] at this

theorem foldW_add {D : Nat → Bool} {w : List (Nat × α)} {ws : List (List (Nat × α))} {i : Nat} {f : Nat → α} (h : ws[i]? = some w) (hl : ∀ j w' t, i < j → ws[j]? = some w' → t ∈ keys w → t ∈ keys w' → D j = false) :
    foldW (fun j => D j || j == i) ws 0 f = updL (foldW D ws 0 f) w := by
  funext t
  by_cases ht : t ∈ keys w
  · rw [foldW_last (t := t) (i := i) (g := foldW D ws 0 f) h (by simp) ht fun j w' hij hj ht' => ?_]
    rw [Nat.zero_add, hl j w' t hij hj ht ht']
    simpa using Nat.ne_of_gt hij
  · rw [updL_not ht]
    refine foldW_eq (fun j w' hj ht' => ?_) rfl
    rw [Nat.zero_add]
    have : j ≠ i := by intro hji; subst hji; rw [h] at hj; cases hj; exact ht ht'
    have h2 : (j == i) = false := by simpa using this
    rw [h2, Bool.or_false]
end

/-! ### What must be ordered, is -/
def maskOf (o : Oper) (acc : List Nat) : Nat := o.after.toList.foldl (fun s e => if Region.binds .any e then s ||| 2 ^ e.on ||| acc.getD e.on 0 else s) 0
def masks : List Oper → List Nat → List Nat
  | [], acc => acc
  | o :: r, acc => masks r (acc ++ [maskOf o acc])
def edgesLt : List Oper → Nat → Bool
  | [], _ => true
  | o :: r, i => (o.after.toList.all fun e => !Region.binds .any e || Nat.blt e.on i) && edgesLt r (i + 1)

def tmpsOf (o : Oper) : List Nat := o.op.operands.toList.filterMap fun | .tmp t => some t | _ => none
def slotsOf (ops : Array Oper) (o : Oper) : List Nat := tmpsOf o ++ (match o.guard with | some (j, _) => ((ops[j]?).bind (·.dst)).toList | none => [])
def meets (a b : List Nat) : Bool := a.any fun x => b.contains x

def conflictB (ops : Array Oper) (o o' : Oper) (f f' : List Nat × List Nat) : Bool :=
  meets o.dst.toList (slotsOf ops o') || meets o'.dst.toList (slotsOf ops o) || meets o.dst.toList o'.dst.toList || meets f.2 f'.1 || meets f'.2 f.1 || meets f.2 f'.2

/-- The operation i may find in the object sid what the operation s, which the order of the text puts behind it, leaves there: B. -/
structure Soft where
  i : Nat
  s : Nat
  sid : Nat
  B : HO

/-- What a soft reading asks of the others: no other operation ahead writes the object, those behind are ordered behind it. -/
def softB (ops : Array Oper) (fps : List (List Nat × List Nat)) : Option Soft → Bool
  | none => true
  | some f => let ms := masks ops.toList []
    (List.range ops.size).all fun j => (match fps[j]? with
      | some fj => !fj.2.contains f.sid || Nat.beq j f.s || ((ms.getD j 0).testBit f.i && Nat.blt f.i j)
      | none => false)
def indepB (ops : Array Oper) (fps : List (List Nat × List Nat)) : Bool :=
  let ms := masks ops.toList []
  edgesLt ops.toList 0 && (List.range ops.size).all fun i => (List.range i).all fun j =>
    (match ops[i]?, ops[j]?, fps[i]?, fps[j]? with
      | some oi, some oj, some fi, some fj => !conflictB ops oj oi fj fi || (ms.getD i 0).testBit j
      | _, _, _, _ => false)

theorem masks_prefix : ∀ (l : List Oper) (acc : List Nat), ∃ r, masks l acc = acc ++ r ∧ r.length = l.length
  | [], acc => ⟨[], by simp [masks]⟩
  | o :: l, acc => by
    obtain ⟨r, h1, h2⟩ := masks_prefix l (acc ++ [maskOf o acc])
    exact ⟨maskOf o acc :: r, by simp [masks, h1], by simp [h2]⟩

theorem masks_get : ∀ (l : List Oper) (acc : List Nat) (i : Nat) (o : Oper), l[i]? = some o → (masks l acc).getD (acc.length + i) 0 = maskOf o ((masks l acc).take (acc.length + i))
  | [], _, i, o, h => by simp at h
  | x :: l, acc, 0, o, h => by
    simp at h
    subst h
    obtain ⟨r, h1, _⟩ := masks_prefix l (acc ++ [maskOf x acc])
    simp [masks, h1, List.getD_eq_getElem?_getD]
  | x :: l, acc, i + 1, o, h => by
    have ih := masks_get l (acc ++ [maskOf x acc]) i o (by simpa using h)
    simp only [List.length_append, List.length_cons, List.length_nil] at ih
    rw [show acc.length + (i + 1) = acc.length + (0 + 1) + i from by omega]
    exact ih

theorem edgesLt_get : ∀ {l : List Oper} {k i : Nat} {o : Oper}, edgesLt l k = true → l[i]? = some o → ∀ e ∈ o.after.toList, Region.binds .any e = true → e.on < k + i
  | [], _, _, _, _, h => by simp at h
  | x :: l, k, 0, o, h, hi => by
    simp at hi
    subst hi
    simp only [edgesLt, Bool.and_eq_true, List.all_eq_true, Bool.or_eq_true, Bool.not_eq_true'] at h
    intro e he hb
    rcases h.1 e he with h' | h'
    · rw [hb] at h'; cases h'
    · exact Nat.lt_of_succ_le (Nat.le_of_ble_eq_true h')
  | x :: l, k, i + 1, o, h, hi => by
    simp only [edgesLt, Bool.and_eq_true] at h
    intro e he hb
    have := edgesLt_get h.2 (by simpa using hi) e he hb
    omega

theorem fold_bit (acc : List Nat) (j : Nat) : ∀ (l : List Edge) (s : Nat), (l.foldl (fun s e => if Region.binds .any e then s ||| 2 ^ e.on ||| acc.getD e.on 0 else s) s).testBit j = true →
    s.testBit j = true ∨ ∃ e ∈ l, Region.binds .any e = true ∧ (j = e.on ∨ (acc.getD e.on 0).testBit j = true)
  | [], s, h => .inl h
  | e :: l, s, h => by
    rcases fold_bit acc j l _ h with h | ⟨e', he', hb, h⟩
    · dsimp only at h
      split at h
      · rename_i hb
        simp only [Nat.testBit_or, Bool.or_eq_true] at h
        rcases h with (h | h) | h
        · exact .inl h
        · refine .inr ⟨e, by simp, hb, .inl ?_⟩
          rw [Nat.testBit_two_pow] at h
          exact (of_decide_eq_true h).symm
        · exact .inr ⟨e, by simp, hb, .inr h⟩
      · exact .inl h
    · exact .inr ⟨e', by simp [he'], hb, h⟩

/-- Whoever has all that stands before him by an edge has all that stands before him. -/
theorem masks_closed {ops : Array Oper} (hlt : edgesLt ops.toList 0 = true) {D : Nat → Bool} (hD : ∀ (i : Nat) (o : Oper), ops[i]? = some o → D i = true → ∀ e ∈ o.after.toList, Region.binds .any e = true → D e.on = true) :
    ∀ (i : Nat) (o : Oper), ops[i]? = some o → (∀ e ∈ o.after.toList, Region.binds .any e = true → D e.on = true) → ∀ j, ((masks ops.toList []).getD i 0).testBit j = true → D j = true := by
  intro i
  induction i using Nat.strongRecOn with
  | _ i ih =>
    intro o ho he j hj
    have hm := masks_get ops.toList [] i o (by simpa using ho)
    simp only [List.length_nil, Nat.zero_add] at hm
    rw [hm] at hj
    rcases fold_bit _ j _ _ hj with h | ⟨e, hel, hb, h⟩
    · simp at h
    · have hlt' := edgesLt_get hlt (by simpa using ho) e hel hb
      rw [Nat.zero_add] at hlt'
      rcases h with h | h
      · rw [h]; exact he e hel hb
      · have hei : e.on < ops.size := by have := (Array.getElem?_eq_some_iff.1 ho).1; omega
        have hoe : ops[e.on]? = some ops[e.on] := by simp [hei]
        refine ih e.on hlt' ops[e.on] hoe (hD e.on _ hoe (he e hel hb)) j ?_
        rw [List.getD_eq_getElem?_getD, List.getElem?_take_of_lt hlt', ← List.getD_eq_getElem?_getD] at h
        exact h

/-! ### The region -/
theorem OpL.congr {E : Env} {o : Oper} {T T' : Nat → AV} {H H' : Nat → HO} {rd : List Nat} {post : List (Nat × HO)} {v : AV} (h : OpL E o T H rd post v) (hT : ∀ t ∈ tmpsOf o, T' t = T t) (hH : ∀ i ∈ rd, H' i = H i) : OpL E o T' H' rd post v := by
  refine ⟨fun r n m a w r0 w0 mu H2 next Q h1 h2 h3 h4 => h.run r n m a w r0 w0 mu H2 next Q (fun X hX => ?_) h2 (fun i hi => (h3 i hi).trans (hH i hi)) h4⟩
  have h5 := h1 X hX
  have h6 : ev T' X = ev T X := by
    cases X with
    | tmp t => exact hT t (List.mem_filterMap.2 ⟨_, hX, rfl⟩)
    | _ => rfl
  rwa [h6] at h5

def guardIs (ops : Array Oper) (nt : Nat) (o : Oper) (T : Nat → AV) (yes : Bool) : Prop :=
  (o.guard = none ∧ yes = true) ∨ (∃ j want dj b, o.guard = some (j, want) ∧ (ops[j]?).bind (·.dst) = some dj ∧ dj < nt ∧ T dj = .bool b ∧ (b == want) = yes) ∨ ∃ j want dj, o.guard = some (j, want) ∧ (ops[j]?).bind (·.dst) = some dj ∧ dj < nt ∧ T dj = .raw undef ∧ yes = false

def dstW (o : Oper) (v : AV) : List (Nat × AV) := (o.dst.toList).map fun d => (d, v)

/-- One entry of the walk in the text's order. -/
def EntOK (E : Env) (ops : Array Oper) (nt : Nat) (sf : Option Soft) (n : Nat) (o : Oper) (T : Nat → AV) (H : Nat → HO) (wT : List (Nat × AV)) (wH : List (Nat × HO)) (fp : List Nat × List Nat) : Prop :=
  ((guardIs ops nt o T true ∧ ∃ v, (∀ H', (∀ t ∈ fp.1, H' t = H t) → (∀ f, sf = some f → f.i = n → H' f.sid = H f.sid ∨ H' f.sid = f.B) → ∃ rd, OpL E o T H' rd wH v) ∧ wT = dstW o v ∧ fp.2 = keys wH) ∨ (guardIs ops nt o T false ∧ wT = dstW o (.raw undef) ∧ wH = [] ∧ fp.2 = [])) ∧
  ∀ f, sf = some f → f.s = n → ∀ g : Nat → HO, updL g wH f.sid = f.B

structure Good (E : Env) (ops : Array Oper) (nt : Nat) (sf : Option Soft) (T0 : Nat → AV) (H0 : Nat → HO) (wT : List (List (Nat × AV))) (wH : List (List (Nat × HO))) (fp : List (List Nat × List Nat)) : Prop where
  lT : wT.length = fp.length
  lH : wH.length = fp.length
  ent : ∀ i o f w w', ops[i]? = some o → fp[i]? = some f → wT[i]? = some w → wH[i]? = some w' → EntOK E ops nt sf i o (foldW (fun j => decide (j < i)) wT 0 T0) (foldW (fun j => decide (j < i)) wH 0 H0) w w' f

theorem foldW_prefix {α : Type} {ws : List (List (Nat × α))} {w : List (Nat × α)} {i : Nat} {f : Nat → α} (hi : i ≤ ws.length) : foldW (fun j => decide (j < i)) (ws ++ [w]) 0 f = foldW (fun j => decide (j < i)) ws 0 f := by
  have key : ∀ (ws : List (List (Nat × α))) (k : Nat) (f : Nat → α), i ≤ k + ws.length → foldW (fun j => decide (j < i)) (ws ++ [w]) k f = foldW (fun j => decide (j < i)) ws k f := by
    intro ws
    induction ws with
    | nil =>
      intro k f h
      simp only [List.nil_append, foldW]
      have : ¬ k < i := by simp at h; omega
      simp [this]
    | cons x ws ih =>
      intro k f h
      simp only [List.cons_append, foldW]
      exact ih _ _ (by simp at h; omega)
  exact key ws 0 f (by omega)
theorem foldW_snoc {α : Type} {ws : List (List (Nat × α))} {w : List (Nat × α)} {f : Nat → α} : foldW (fun j => decide (j < ws.length + 1)) (ws ++ [w]) 0 f = updL (foldW (fun j => decide (j < ws.length)) ws 0 f) w := by
  have key : ∀ (ws : List (List (Nat × α))) (k N : Nat) (f : Nat → α), N = k + ws.length → foldW (fun j => decide (j < N + 1)) (ws ++ [w]) k f = updL (foldW (fun j => decide (j < N)) ws k f) w := by
    intro ws
    induction ws with
    | nil => intro k N f h; simp at h; subst h; simp [foldW]
    | cons x ws ih =>
      intro k N f h
      simp only [List.cons_append, foldW]
      simp at h
      have h1 : k < N + 1 := by omega
      have h2 : k < N := by omega
      simp only [h1, h2, decide_true, if_true]
      exact ih _ _ _ (by omega)
  exact key ws 0 _ f (by simp)

def RegionOK (E : Env) (X : Ctx) (nt : Nat) (ops : Array Oper) (K : AS → Prop) (s : AS) : Prop :=
  ∀ (Q' : Exit → Act → World → Prop) (a : Act) (w : World), (∀ s' a' w', K s' → Den X nt s' a' w' → Q' .normal a' w') → Den X nt s a w → wpAnyIn (Wf X.r) X.n E.P .any ops Q' ops.size (Array.replicate ops.size false) a w

section
variable {E : Env} {X : Ctx} {nt : Nat} {ops : Array Oper} {K : AS → Prop} {T0 : Nat → AV} {H0 : Nat → HO} {ks : List Nat} {sf : Option Soft}

theorem meets_false {a b : List Nat} (h : meets a b = false) : ∀ x ∈ a, x ∉ b := by
  intro x hx hb
  have : meets a b = true := List.any_eq_true.2 ⟨x, hx, by simpa using hb⟩
  rw [h] at this; cases this

theorem putD_eq (T : Nat → AV) (o : Oper) (v : AV) : putD T o.dst v = updL T (dstW o v) := by
  cases h : o.dst <;> simp [putD, dstW, h, updL]
theorem keys_dstW (o : Oper) (v : AV) : keys (dstW o v) = o.dst.toList := by
  cases h : o.dst <;> simp [keys, dstW, h]

theorem mem_ready {md : Region.Mode} {listed : Array Bool} {i : Nat} (h : i ∈ Region.ready md ops listed) : i < ops.size ∧ listed.getD i true = false ∧ ∃ o, ops[i]? = some o ∧ ∀ e ∈ o.after.toList, Region.binds md e = true → listed.getD e.on false = true := by
  simp only [Region.ready, List.mem_filter, List.mem_range, Bool.and_eq_true, Bool.not_eq_true'] at h
  obtain ⟨h1, h2, h3⟩ := h
  refine ⟨h1, h2, ops[i], by simp [h1], ?_⟩
  simp only [Array.getElem?_eq_getElem h1, Option.map_some, Option.getD_some, Array.all_eq_true', Bool.or_eq_true, Bool.not_eq_true'] at h3
  intro e he hb
  rcases h3 e (by simpa using he) with h | h
  · rw [hb] at h; cases h
  · exact h

theorem region_ok (hd : dstsLt ops.toList nt = true) {wT : List (List (Nat × AV))} {wH : List (List (Nat × HO))} {fp : List (List Nat × List Nat)} (hG : Good E ops nt sf T0 H0 wT wH fp) (hl : fp.length = ops.size) (hind : indepB ops fp = true) (hsoft : softB ops fp sf = true) (hslt : ∀ f, sf = some f → ¬ f.s < f.i)
    (hK : K ⟨foldW (fun j => decide (j < ops.size)) wT 0 T0, foldW (fun j => decide (j < ops.size)) wH 0 H0, ks⟩) : RegionOK E X nt ops K ⟨T0, H0, ks⟩ := by
  intro Q' a w hQ hD
  simp only [indepB, Bool.and_eq_true, List.all_eq_true, List.mem_range] at hind
  obtain ⟨hlt, hind⟩ := hind
  -- what two operations have to do with each other
  have hconf : ∀ i j oi oj fi fj, ops[i]? = some oi → ops[j]? = some oj → fp[i]? = some fi → fp[j]? = some fj → j < i → ((masks ops.toList []).getD i 0).testBit j = true ∨ conflictB ops oj oi fj fi = false := by
    intro i j oi oj fi fj h1 h2 h3 h4 hji
    have := hind i (Array.getElem?_eq_some_iff.1 h1).1 j hji
    rw [h1, h2, h3, h4] at this
    simp only [Bool.or_eq_true, Bool.not_eq_true'] at this
    exact this.symm
  have hgetT : ∀ i, i < ops.size → ∃ w, wT[i]? = some w := fun i hi => ⟨_, List.getElem?_eq_getElem (by rw [hG.lT, hl]; exact hi)⟩
  have hgetH : ∀ i, i < ops.size → ∃ w, wH[i]? = some w := fun i hi => ⟨_, List.getElem?_eq_getElem (by rw [hG.lH, hl]; exact hi)⟩
  have hgetF : ∀ i, i < ops.size → ∃ f, fp[i]? = some f := fun i hi => ⟨_, List.getElem?_eq_getElem (by rw [hl]; exact hi)⟩
  have hkT : ∀ (i : Nat) (o : Oper) (w : List (Nat × AV)), ops[i]? = some o → wT[i]? = some w → keys w = o.dst.toList := by
    intro i o w ho hw
    have hi := (Array.getElem?_eq_some_iff.1 ho).1
    obtain ⟨f, hf⟩ := hgetF i hi
    obtain ⟨w', hw'⟩ := hgetH i hi
    rcases (hG.ent i o f w w' ho hf hw hw').1 with ⟨_, v, _, h, _⟩ | ⟨_, h, _⟩ <;> rw [h, keys_dstW]
  have hkH : ∀ (i : Nat) (o : Oper) (f : List Nat × List Nat) (w : List (Nat × HO)), ops[i]? = some o → fp[i]? = some f → wH[i]? = some w → keys w = f.2 := by
    intro i o f w ho hf hw
    have hi := (Array.getElem?_eq_some_iff.1 ho).1
    obtain ⟨w', hw'⟩ := hgetT i hi
    rcases (hG.ent i o f w' w ho hf hw' hw).1 with ⟨_, v, _, _, h⟩ | ⟨_, _, h, h2⟩
    · exact h.symm
    · rw [h, h2]; rfl
  have hfin : ∀ (D : Nat → Bool), (∀ i, i < ops.size → D i = true) → foldW D wT 0 T0 = foldW (fun j => decide (j < ops.size)) wT 0 T0 ∧ foldW D wH 0 H0 = foldW (fun j => decide (j < ops.size)) wH 0 H0 := by
    intro D hall
    constructor
    · funext t
      refine foldW_eq (fun j w hj _ => ?_) rfl
      have hj' : j < ops.size := by rw [← hl, ← hG.lT]; exact (List.getElem?_eq_some_iff.1 hj).1
      rw [Nat.zero_add, hall j hj']; simp [hj']
    · funext t
      refine foldW_eq (fun j w hj _ => ?_) rfl
      have hj' : j < ops.size := by rw [← hl, ← hG.lH]; exact (List.getElem?_eq_some_iff.1 hj).1
      rw [Nat.zero_add, hall j hj']; simp [hj']
  have key : ∀ (fuel : Nat) (listed : Array Bool) (a : Act) (w : World), listed.size = ops.size → (List.range ops.size).countP (fun i => !listed.getD i false) ≤ fuel →
      (∀ (i : Nat) (o : Oper), ops[i]? = some o → listed.getD i false = true → ∀ e ∈ o.after.toList, Region.binds .any e = true → listed.getD e.on false = true) →
      Den X nt ⟨foldW (fun i => listed.getD i false) wT 0 T0, foldW (fun i => listed.getD i false) wH 0 H0, ks⟩ a w → wpAnyIn (Wf X.r) X.n E.P .any ops Q' fuel listed a w := by
    intro fuel
    induction fuel with
    | zero =>
      intro listed a w hsz hc hcl hD
      have hall : ∀ i, i < ops.size → listed.getD i false = true := by
        intro i hi
        have h0 : (List.range ops.size).countP (fun i => !listed.getD i false) = 0 := by omega
        rw [List.countP_eq_zero] at h0
        have := h0 i (List.mem_range.2 hi)
        simpa using this
      refine ⟨?_, ?_⟩
      · cases hr : Region.ready .any ops listed with
        | nil => rfl
        | cons i r =>
          obtain ⟨h1, h2, _⟩ := mem_ready (show i ∈ Region.ready .any ops listed by rw [hr]; simp)
          have h3 := hall i h1
          rw [Array.getD_eq_getD_getElem?] at h2 h3
          rw [Array.getElem?_eq_getElem (by omega)] at h2 h3
          simp at h2 h3
          rw [h2] at h3; cases h3
      · obtain ⟨h1, h2⟩ := hfin _ hall
        rw [h1, h2] at hD
        exact hQ _ a w hK hD
    | succ fuel ih =>
      intro listed a w hsz hc hcl hD
      refine ⟨fun hr => ?_, fun i hi => ?_⟩
      · have hall : ∀ i, i < ops.size → listed.getD i false = true := by
          intro i
          induction i using Nat.strongRecOn with
          | _ i ihi =>
            intro hi
            rcases hb : listed.getD i false with _ | _
            · exfalso
              have hmem : i ∈ Region.ready .any ops listed := by
                simp only [Region.ready, List.mem_filter, List.mem_range, Bool.and_eq_true, Bool.not_eq_true']
                refine ⟨hi, ?_, ?_⟩
                · rw [Array.getD_eq_getD_getElem?] at hb ⊢
                  rw [Array.getElem?_eq_getElem (by omega)] at hb ⊢
                  simpa using hb
                · simp only [Array.getElem?_eq_getElem hi, Option.map_some, Option.getD_some, Array.all_eq_true', Bool.or_eq_true, Bool.not_eq_true']
                  intro e he
                  rcases hbe : Region.binds .any e with _ | _
                  · exact .inl rfl
                  · refine .inr (ihi e.on ?_ ?_)
                    · have := edgesLt_get hlt (i := i) (o := ops[i]) (by simp [hi]) e (by simpa using he) hbe
                      omega
                    · have := edgesLt_get hlt (i := i) (o := ops[i]) (by simp [hi]) e (by simpa using he) hbe
                      omega
              rw [hr] at hmem
              cases hmem
            · rfl
        obtain ⟨h1, h2⟩ := hfin _ hall
        rw [h1, h2] at hD
        exact hQ _ a w hK hD
      · obtain ⟨hi1, hi2, o, ho, hed⟩ := mem_ready hi
        obtain ⟨f, hf⟩ := hgetF i hi1
        obtain ⟨wt, hwt⟩ := hgetT i hi1
        obtain ⟨wh, hwh⟩ := hgetH i hi1
        have hent := hG.ent i o f wt wh ho hf hwt hwh
        have hni : listed.getD i false = false := by
          rw [Array.getD_eq_getD_getElem?] at hi2 ⊢
          rw [Array.getElem?_eq_getElem (by omega)] at hi2 ⊢
          simpa using hi2
        have hanc := masks_closed hlt (D := fun i => listed.getD i false) hcl i o ho hed
        -- an operation behind i that has to do with it has not run
        have hbehind : ∀ j oj fj, ops[j]? = some oj → fp[j]? = some fj → i < j → conflictB ops o oj f fj = true → listed.getD j false = false := by
          intro j oj fj hoj hfj hij hcf
          rcases hb : listed.getD j false with _ | _
          · rfl
          · exfalso
            rcases hconf j i oj o fj f hoj ho hfj hf hij with h | h
            · have := masks_closed hlt (D := fun i => listed.getD i false) hcl j oj hoj (hcl j oj hoj hb) i h
              rw [hni] at this; cases this
            · rw [hcf] at h; cases h
        -- an operation ahead of i that has to do with it has run
        have hahead : ∀ j oj fj, ops[j]? = some oj → fp[j]? = some fj → j < i → conflictB ops oj o fj f = true → listed.getD j false = true := by
          intro j oj fj hoj hfj hji hcf
          rcases hconf i j o oj f fj ho hoj hf hfj hji with h | h
          · exact hanc j h
          · rw [hcf] at h; cases h
        have hTat : ∀ t ∈ slotsOf ops o, foldW (fun i => listed.getD i false) wT 0 T0 t = foldW (fun j => decide (j < i)) wT 0 T0 t := by
          intro t ht
          refine foldW_eq (fun j w' hj htw => ?_) rfl
          rw [Nat.zero_add]
          have hj' : j < ops.size := by rw [← hl, ← hG.lT]; exact (List.getElem?_eq_some_iff.1 hj).1
          obtain ⟨fj, hfj⟩ := hgetF j hj'
          have hoj : ops[j]? = some ops[j] := by simp [hj']
          rw [hkT j _ w' hoj hj] at htw
          have hm : meets (ops[j]).dst.toList (slotsOf ops o) = true := List.any_eq_true.2 ⟨t, htw, by simpa using ht⟩
          rcases Nat.lt_trichotomy j i with h | h | h
          · rw [hahead j _ fj hoj hfj h (by simp [conflictB, hm])]; simp [h]
          · subst h
            rw [hni]; simp
          · rw [hbehind j _ fj hoj hfj h (by simp [conflictB, hm])]; simp; omega
        have hHat : ∀ t ∈ f.1, foldW (fun i => listed.getD i false) wH 0 H0 t = foldW (fun j => decide (j < i)) wH 0 H0 t := by
          intro t ht
          refine foldW_eq (fun j w' hj htw => ?_) rfl
          rw [Nat.zero_add]
          have hj' : j < ops.size := by rw [← hl, ← hG.lH]; exact (List.getElem?_eq_some_iff.1 hj).1
          obtain ⟨fj, hfj⟩ := hgetF j hj'
          have hoj : ops[j]? = some ops[j] := by simp [hj']
          rw [hkH j _ fj w' hoj hfj hj] at htw
          have hm : meets fj.2 f.1 = true := List.any_eq_true.2 ⟨t, htw, by simpa using ht⟩
          rcases Nat.lt_trichotomy j i with h | h | h
          · rw [hahead j _ fj hoj hfj h (by simp [conflictB, hm])]; simp [h]
          · subst h
            rw [hni]; simp
          · rw [hbehind j _ fj hoj hfj h (by simp [conflictB, hm])]; simp; omega
        have hD' : (fun j => (listed.setIfInBounds i true).getD j false) = (fun j => listed.getD j false || j == i) := by
          funext j
          rw [Array.getD_eq_getD_getElem?, Array.getD_eq_getD_getElem?, Array.getElem?_setIfInBounds]
          by_cases h : i = j
          · subst h; simp [hsz, hi1]
          · simp [h, Ne.symm h]
        have hnewT : foldW (fun j => (listed.setIfInBounds i true).getD j false) wT 0 T0 = updL (foldW (fun i => listed.getD i false) wT 0 T0) wt := by
          rw [hD']
          refine foldW_add hwt fun j w' t hij hj h1 h2 => ?_
          have hj' : j < ops.size := by rw [← hl, ← hG.lT]; exact (List.getElem?_eq_some_iff.1 hj).1
          obtain ⟨fj, hfj⟩ := hgetF j hj'
          have hoj : ops[j]? = some ops[j] := by simp [hj']
          rw [hkT i o wt ho hwt] at h1
          rw [hkT j _ w' hoj hj] at h2
          have hm : meets o.dst.toList (ops[j]).dst.toList = true := List.any_eq_true.2 ⟨t, h1, by simpa using h2⟩
          exact hbehind j _ fj hoj hfj hij (by simp [conflictB, hm])
        have hnewH : foldW (fun j => (listed.setIfInBounds i true).getD j false) wH 0 H0 = updL (foldW (fun i => listed.getD i false) wH 0 H0) wh := by
          rw [hD']
          refine foldW_add hwh fun j w' t hij hj h1 h2 => ?_
          have hj' : j < ops.size := by rw [← hl, ← hG.lH]; exact (List.getElem?_eq_some_iff.1 hj).1
          obtain ⟨fj, hfj⟩ := hgetF j hj'
          have hoj : ops[j]? = some ops[j] := by simp [hj']
          rw [hkH i o f wh ho hf hwh] at h1
          rw [hkH j _ fj w' hoj hfj hj] at h2
          have hm : meets f.2 fj.2 = true := List.any_eq_true.2 ⟨t, h1, by simpa using h2⟩
          exact hbehind j _ fj hoj hfj hij (by simp [conflictB, hm])
        have hnext : ∀ a' w', Den X nt ⟨updL (foldW (fun i => listed.getD i false) wT 0 T0) wt, updL (foldW (fun i => listed.getD i false) wH 0 H0) wh, ks⟩ a' w' → wpAnyIn (Wf X.r) X.n E.P .any ops Q' fuel (listed.setIfInBounds i true) a' w' := by
          intro a' w' hden
          refine ih _ _ _ (by simp [hsz]) ?_ ?_ (by rw [hnewT, hnewH]; exact hden)
          · have hlt2 : (List.range ops.size).countP (fun j => !(listed.setIfInBounds i true).getD j false) < (List.range ops.size).countP (fun j => !listed.getD j false) := by
              have e1 : (List.range ops.size).countP (fun j => !listed.getD j false) = (List.range ops.size).countP (fun j => !(listed.setIfInBounds i true).getD j false) + (List.range ops.size).countP (fun j => j == i) := by
                have h2 : (fun j => !(listed.setIfInBounds i true).getD j false) = (fun j => !(listed.getD j false || j == i)) := by
                  funext j; exact congrArg (!·) (congrFun hD' j)
                rw [h2]
                generalize List.range ops.size = l
                induction l with
                | nil => rfl
                | cons x l ihl =>
                  simp only [List.countP_cons]
                  rw [ihl]
                  by_cases hx : x = i
                  · subst hx; simp [hni]; omega
                  · have : (x == i) = false := by simpa using hx
                    simp [this]; omega
              have e2 : 0 < (List.range ops.size).countP (fun j => j == i) := List.countP_pos_iff.2 ⟨i, List.mem_range.2 hi1, by simp⟩
              omega
            omega
          · intro j oj hoj hj e he hb
            have h1 := congrFun hD' j
            have h2 := congrFun hD' e.on
            rw [h1] at hj
            rw [h2]
            simp only [Bool.or_eq_true, beq_iff_eq] at hj ⊢
            rcases hj with hj | hj
            · exact .inl (hcl j oj hoj hj e he hb)
            · subst hj
              rw [ho] at hoj
              cases hoj
              exact .inl (hed e he hb)
        obtain ⟨m, hDm⟩ := hD
        have hdlt : ∀ d, o.dst = some d → d < nt := by
          intro d hd'
          have hmem : o ∈ ops.toList := by
            have := (Array.getElem?_eq_some_iff.1 ho).2
            rw [← this]; exact Array.getElem_mem_toList _
          simp only [dstsLt, List.all_eq_true] at hd
          have := hd o hmem
          rw [hd'] at this
          exact Nat.lt_of_succ_le (Nat.le_of_ble_eq_true this)
        have hguard : ∀ yes, guardIs ops nt o (foldW (fun j => decide (j < i)) wT 0 T0) yes → Region.wanted o (yielded ops a.tmps) = yes := by
          rintro yes (⟨h, rfl⟩ | ⟨j, want, dj, b, h1, h2, h3, h4, h5⟩ | ⟨j, want, dj, h1, h2, h3, h4, rfl⟩)
          · simp [Region.wanted, h]
          · have hs : dj ∈ slotsOf ops o := by simp [slotsOf, h1, h2]
            have h6 := hTat dj hs
            rw [h4] at h6
            have h7 := yielded_of (ops := ops) hDm h2 h3 h6
            simp only [Region.wanted, h1, h7]
            rw [← h5]
            cases b <;> cases want <;> rfl
          · have hs : dj ∈ slotsOf ops o := by simp [slotsOf, h1, h2]
            have h6 := hTat dj hs
            rw [h4] at h6
            have h7 := yielded_none (ops := ops) hDm h2 h3 h6
            simp only [Region.wanted, h1, h7]
            rfl
        unfold wpOpIn
        simp only [ho]
        have hso : ∀ f', sf = some f' → f'.i = i → foldW (fun i => listed.getD i false) wH 0 H0 f'.sid = foldW (fun j => decide (j < i)) wH 0 H0 f'.sid ∨ foldW (fun i => listed.getD i false) wH 0 H0 f'.sid = f'.B := by
          intro f' hsf hfi
          subst hsf
          simp only [softB, List.all_eq_true, List.mem_range] at hsoft
          have hwr : ∀ j w', wH[j]? = some w' → f'.sid ∈ keys w' → j = f'.s ∨ (((masks ops.toList []).getD j 0).testBit f'.i = true ∧ f'.i < j) := by
            intro j w' hj htw
            have hj' : j < ops.size := by rw [← hl, ← hG.lH]; exact (List.getElem?_eq_some_iff.1 hj).1
            obtain ⟨fj, hfj⟩ := hgetF j hj'
            have hoj : ops[j]? = some ops[j] := by simp [hj']
            rw [hkH j _ fj w' hoj hfj hj] at htw
            have h1 := hsoft j hj'
            rw [hfj] at h1
            simp only [Bool.or_eq_true, Bool.not_eq_true', Bool.and_eq_true] at h1
            rcases h1 with (h1 | h1) | ⟨h1, h2⟩
            · have : fj.2.contains f'.sid = true := by simpa using htw
              rw [h1] at this; cases this
            · exact .inl (Nat.eq_of_beq_eq_true h1)
            · exact .inr ⟨h1, Nat.lt_of_succ_le (Nat.le_of_ble_eq_true h2)⟩
          have hnot : ∀ j w', wH[j]? = some w' → f'.sid ∈ keys w' → j ≠ f'.s → listed.getD j false = false := by
            intro j w' hj htw hne
            have hj' : j < ops.size := by rw [← hl, ← hG.lH]; exact (List.getElem?_eq_some_iff.1 hj).1
            have hoj : ops[j]? = some ops[j] := by simp [hj']
            rcases hwr j w' hj htw with h | ⟨h, _⟩
            · exact absurd h hne
            · rcases hb : listed.getD j false with _ | _
              · rfl
              · exfalso
                have := masks_closed hlt (D := fun i => listed.getD i false) hcl j _ hoj (hcl j _ hoj hb) f'.i h
                rw [hfi, hni] at this; cases this
          by_cases hs : listed.getD f'.s false = true ∧ ∃ w', wH[f'.s]? = some w' ∧ f'.sid ∈ keys w'
          · right
            obtain ⟨hs1, w', hs2, hs3⟩ := hs
            rw [foldW_last (D := fun i => listed.getD i false) (w := w') (g := H0) hs2 (by rw [Nat.zero_add]; exact hs1) hs3 (fun j w2 hij hj htw => by rw [Nat.zero_add]; exact hnot j w2 hj htw (by omega))]
            have hj' : f'.s < ops.size := by rw [← hl, ← hG.lH]; exact (List.getElem?_eq_some_iff.1 hs2).1
            obtain ⟨fj, hfj⟩ := hgetF f'.s hj'
            obtain ⟨wt2, hwt2⟩ := hgetT f'.s hj'
            exact (hG.ent f'.s (ops[f'.s]'hj') fj wt2 w' (by simp [hj']) hfj hwt2 hs2).2 f' rfl rfl _
          · by_cases hs4 : f'.s < i ∧ ∃ w', wH[f'.s]? = some w' ∧ f'.sid ∈ keys w'
            · exfalso
              -- the text's order puts s ahead of i: then it has run, or is no soft writer
              obtain ⟨hs5, w', hs6, hs7⟩ := hs4
              exact hslt f' rfl (by omega)
            · left
              refine foldW_eq (fun j w' hj htw => ?_) rfl
              rw [Nat.zero_add]
              by_cases hjs : j = f'.s
              · subst hjs
                have h1 : listed.getD f'.s false = false := by
                  rcases hb : listed.getD f'.s false with _ | _
                  · rfl
                  · exact absurd ⟨hb, w', hj, htw⟩ hs
                have h2 : ¬ f'.s < i := fun h => hs4 ⟨h, w', hj, htw⟩
                rw [h1]; simp [h2]
              · rw [hnot j w' hj htw hjs]
                rcases hwr j w' hj htw with h | ⟨_, h⟩
                · exact absurd h hjs
                · simp; omega
        rcases hent.1 with ⟨hg, v, hop0, hwt', hfp⟩ | ⟨hg, hwt', hwh', hfp⟩
        · rw [if_pos (hguard true hg)]
          obtain ⟨rd, hop⟩ := hop0 (foldW (fun i => listed.getD i false) wH 0 H0) hHat hso
          have hop' := hop.congr (T' := foldW (fun i => listed.getD i false) wT 0 T0) (H' := foldW (fun i => listed.getD i false) wH 0 H0) (fun t ht => hTat t (by simp [slotsOf, ht])) (fun _ _ => rfl)
          refine hop'.run X.r X.n m a w X.m0.ro X.w0 X.mu _ _ Q' (fun Y _ => hDm.evals Y) hDm.mem (fun _ _ => rfl) fun m' u w' hle hM hv => hnext _ _ ⟨m', ?_⟩
          have := hDm.put (d := o.dst) (v := v) hdlt hle hM hv
          rw [putD_eq, ← hwt'] at this
          exact this
        · rw [if_neg (by rw [hguard false hg]; simp)]
          refine ⟨fun _ _ => trivial, hnext _ _ ⟨m, ?_⟩⟩
          have := hDm.put (d := o.dst) (v := .raw undef) (u := undef) hdlt (Mem.le.refl m) hDm.mem rfl
          rw [putD_eq, ← hwt'] at this
          rw [hwh']
          exact this
  refine key ops.size (Array.replicate ops.size false) a w (by simp) (by exact Nat.le_trans (List.countP_le_length ..) (by simp)) (fun i o ho h => ?_) ?_
  · rw [Array.getD_eq_getD_getElem?, Array.getElem?_replicate] at h
    split at h
    · cases h
    · cases h
  · have h0 : (fun i => (Array.replicate ops.size false).getD i false) = fun _ => false := by
      funext i
      rw [Array.getD_eq_getD_getElem?, Array.getElem?_replicate]
      split <;> rfl
    rw [h0]
    have hnone : ∀ {α : Type} (ws : List (List (Nat × α))) (k : Nat) (f : Nat → α), foldW (fun _ => false) ws k f = f := by
      intro α ws
      induction ws with
      | nil => intro k f; rfl
      | cons w ws ih => intro k f; simp only [foldW, Bool.false_eq_true, if_false]; exact ih _ _
    rw [hnone, hnone]
    exact hD

/-- The walk through a region that draws: what has been walked (each operation's objects read and written, the last one first), what is left. -/
structure GoDS (sf : Option Soft) (E : Env) (X : Ctx) (nt : Nat) (ops : Array Oper) (K : AS → Prop) (ks : List Nat) (T0 : Nat → AV) (H0 : Nat → HO) (fpr : List (List Nat × List Nat)) (l : List Oper) (T : Nat → AV) (H : Nat → HO) : Prop where
  out : ∀ wT wH, Good E ops nt sf T0 H0 wT wH fpr.reverse → ops.toList.drop fpr.length = l → T = foldW (fun j => decide (j < fpr.length)) wT 0 T0 → H = foldW (fun j => decide (j < fpr.length)) wH 0 H0 → RegionOK E X nt ops K ⟨T0, H0, ks⟩

abbrev GoD (E : Env) (X : Ctx) (nt : Nat) (ops : Array Oper) (K : AS → Prop) (ks : List Nat) (T0 : Nat → AV) (H0 : Nat → HO) (fpr : List (List Nat × List Nat)) (l : List Oper) (T : Nat → AV) (H : Nat → HO) : Prop := GoDS none E X nt ops K ks T0 H0 fpr l T H

theorem Good.snoc {wT : List (List (Nat × AV))} {wH : List (List (Nat × HO))} {fpr : List (List Nat × List Nat)} {o : Oper} {w : List (Nat × AV)} {w' : List (Nat × HO)} {f : List Nat × List Nat} (h : Good E ops nt sf T0 H0 wT wH fpr.reverse)
    (ho : ops[fpr.length]? = some o) (he : EntOK E ops nt sf fpr.length o (foldW (fun j => decide (j < fpr.length)) wT 0 T0) (foldW (fun j => decide (j < fpr.length)) wH 0 H0) w w' f) : Good E ops nt sf T0 H0 (wT ++ [w]) (wH ++ [w']) (f :: fpr).reverse := by
  have hT := h.lT
  have hH := h.lH
  rw [List.length_reverse] at hT hH
  refine ⟨by simp [hT], by simp [hH], fun i o' f' w1 w2 h1 h2 h3 h4 => ?_⟩
  rw [List.reverse_cons] at h2
  rcases Nat.lt_trichotomy i fpr.length with hi | hi | hi
  · rw [List.getElem?_append_left (by simp; omega)] at h2
    rw [List.getElem?_append_left (by omega)] at h3 h4
    rw [foldW_prefix (by omega), foldW_prefix (by omega)]
    exact h.ent i o' f' w1 w2 h1 h2 h3 h4
  · subst hi
    rw [List.getElem?_append_right (by simp)] at h2
    rw [List.getElem?_append_right (by omega)] at h3 h4
    simp [hT] at h3
    simp [hH] at h4
    simp at h2
    rw [ho] at h1
    cases h1
    subst h2 h3 h4
    rw [foldW_prefix (by omega), foldW_prefix (by omega)]
    exact he
  · rw [List.getElem?_append_right (by simp; omega)] at h2
    rw [List.getElem?_eq_none (by simp; omega)] at h2
    cases h2

theorem GoDS.step {fpr : List (List Nat × List Nat)} {o : Oper} {l : List Oper} {T : Nat → AV} {H : Nat → HO} {w : List (Nat × AV)} {w' : List (Nat × HO)} {f : List Nat × List Nat} (he : EntOK E ops nt sf fpr.length o T H w w' f)
    (hK : GoDS sf E X nt ops K ks T0 H0 (f :: fpr) l (updL T w) (updL H w')) : GoDS sf E X nt ops K ks T0 H0 fpr (o :: l) T H := by
  refine ⟨fun wT wH hG hl hT hH => ?_⟩
  have h0 : ops.toList[fpr.length]? = some o := by
    have := congrArg (fun x => x[0]?) hl
    simpa using this
  have ho : ops[fpr.length]? = some o := by simpa using h0
  have hd : ops.toList.drop (fpr.length + 1) = l := by
    have := congrArg (fun x => x.drop 1) hl
    simpa [Nat.add_comm] using this
  have hlT := hG.lT
  have hlH := hG.lH
  rw [List.length_reverse] at hlT hlH
  refine hK.out (wT ++ [w]) (wH ++ [w']) (hG.snoc ho (by rw [← hT, ← hH]; exact he)) (by simpa using hd) ?_ ?_
  · rw [List.length_cons, ← hlT, foldW_snoc, hlT, ← hT]
  · rw [List.length_cons, ← hlH, foldW_snoc, hlH, ← hH]

theorem GoDS.done {fpr : List (List Nat × List Nat)} {T : Nat → AV} {H : Nat → HO} (hslt : ∀ f, sf = some f → ¬ f.s < f.i) (hd : dstsLt ops.toList nt = true) (hlen : Nat.beq fpr.length ops.size = true) (hind : (indepB ops fpr.reverse && softB ops fpr.reverse sf) = true) (hK : K ⟨T, H, ks⟩) : GoDS sf E X nt ops K ks T0 H0 fpr [] T H := by
  refine ⟨fun wT wH hG _ hT hH => ?_⟩
  simp only [Bool.and_eq_true] at hind
  have hl : fpr.length = ops.size := Nat.eq_of_beq_eq_true hlen
  refine region_ok hd hG (by rw [List.length_reverse, hl]) hind.1 hind.2 hslt ?_
  rw [← hl, ← hT, ← hH]
  exact hK
theorem GoD.done {fpr : List (List Nat × List Nat)} {T : Nat → AV} {H : Nat → HO} (hd : dstsLt ops.toList nt = true) (hlen : Nat.beq fpr.length ops.size = true) (hind : indepB ops fpr.reverse = true) (hK : K ⟨T, H, ks⟩) : GoD E X nt ops K ks T0 H0 fpr [] T H := by
  refine ⟨fun wT wH hG _ hT hH => ?_⟩
  have hl : fpr.length = ops.size := Nat.eq_of_beq_eq_true hlen
  refine region_ok hd hG (by rw [List.length_reverse, hl]) hind rfl (fun f h => by cases h) ?_
  rw [← hl, ← hT, ← hH]
  exact hK

/-- One operation as its rule says. -/
theorem EntOK.of {o : Oper} {n : Nat} {T : Nat → AV} {H : Nat → HO} {w : List (Nat × AV)} {w' : List (Nat × HO)} {f : List Nat × List Nat} (h : (guardIs ops nt o T true ∧ ∃ v, OpL E o T H f.1 w' v ∧ w = dstW o v ∧ f.2 = keys w') ∨ (guardIs ops nt o T false ∧ w = dstW o (.raw undef) ∧ w' = [] ∧ f.2 = [])) (hs : ∀ g, sf = some g → g.s ≠ n) : EntOK E ops nt sf n o T H w w' f := by
  refine ⟨?_, fun g hg hn => absurd hn (hs g hg)⟩
  rcases h with ⟨h1, v, h2, h3⟩ | h
  · exact .inl ⟨h1, v, fun H' hH _ => ⟨_, h2.congr (fun _ _ => rfl) hH⟩, h3⟩
  · exact .inr h
theorem GoD.step {fpr : List (List Nat × List Nat)} {o : Oper} {l : List Oper} {T : Nat → AV} {H : Nat → HO} {w : List (Nat × AV)} {w' : List (Nat × HO)} {f : List Nat × List Nat} (he : (guardIs ops nt o T true ∧ ∃ v, OpL E o T H f.1 w' v ∧ w = dstW o v ∧ f.2 = keys w') ∨ (guardIs ops nt o T false ∧ w = dstW o (.raw undef) ∧ w' = [] ∧ f.2 = []))
    (hK : GoD E X nt ops K ks T0 H0 (f :: fpr) l (updL T w) (updL H w')) : GoD E X nt ops K ks T0 H0 fpr (o :: l) T H := GoDS.step (EntOK.of he fun _ h => by cases h) hK

theorem GoC.draw {c : Nat} {Q : Exit → AS → Prop} {t : Nat → AV} {h : Nat → HO} {k : List Nat} (hm : E.P.follows .mixedOrders = true) (hG : GoD E X nt ops (Q .normal) k t h [] ops.toList t h) : GoC E X nt (.region c ops true) Q ⟨t, h, k⟩ := by
  refine ⟨fun a w ⟨m, hD⟩ => wpIn_region_any hm ?_⟩
  have h0 : Good E ops nt none t h [] [] [].reverse := ⟨rfl, rfl, fun i o f w w' _ h2 => by simp at h2⟩
  refine hG.out [] [] h0 rfl rfl rfl _ a _ (fun s' a' w' hq hd => ⟨s', hq, hd⟩) ⟨m, hD.size, hD.defers, hD.le, hD.ids, hD.tmps, ?_⟩
  exact hD.mem.world rfl rfl rfl (Nat.le_refl _) (fun _ _ => rfl)

section
variable {fpr : List (List Nat × List Nat)} {l : List Oper} {T : Nat → AV} {H : Nat → HO} {i : Nat} {op : Op} {ty : TypeId} {pos : String} {af : Array Edge} {rd : List Nat} {v : AV} {post : List (Nat × HO)}
theorem GoD.p (hop : OpL E ⟨some i, op, ty, pos, af, none⟩ T H rd [] v) (hK : GoD E X nt ops K ks T0 H0 ((rd, []) :: fpr) l (upd T i v) H) : GoD E X nt ops K ks T0 H0 fpr (⟨some i, op, ty, pos, af, none⟩ :: l) T H :=
  GoD.step (f := (rd, [])) (w := [(i, v)]) (w' := []) (.inl ⟨.inl ⟨rfl, rfl⟩, v, hop, rfl, rfl⟩) hK
theorem GoD.m (hop : OpL E ⟨some i, op, ty, pos, af, none⟩ T H rd post v) (hK : GoD E X nt ops K ks T0 H0 ((rd, keys post) :: fpr) l (upd T i v) (updL H post)) : GoD E X nt ops K ks T0 H0 fpr (⟨some i, op, ty, pos, af, none⟩ :: l) T H :=
  GoD.step (f := (rd, keys post)) (w := [(i, v)]) (w' := post) (.inl ⟨.inl ⟨rfl, rfl⟩, v, hop, rfl, rfl⟩) hK
theorem GoD.n (hop : OpL E ⟨none, op, ty, pos, af, none⟩ T H rd post v) (hK : GoD E X nt ops K ks T0 H0 ((rd, keys post) :: fpr) l T (updL H post)) : GoD E X nt ops K ks T0 H0 fpr (⟨none, op, ty, pos, af, none⟩ :: l) T H :=
  GoD.step (f := (rd, keys post)) (w := []) (w' := post) (.inl ⟨.inl ⟨rfl, rfl⟩, v, hop, rfl, rfl⟩) hK
theorem GoD.gp {j dj : Nat} {want b : Bool} (hj : (ops[j]?).bind (·.dst) = some dj) (hlt : Nat.blt dj nt = true) (hb : T dj = .bool b) (hbw : b = want) (hop : OpL E ⟨some i, op, ty, pos, af, some (j, want)⟩ T H rd [] v)
    (hK : GoD E X nt ops K ks T0 H0 ((rd, []) :: fpr) l (upd T i v) H) : GoD E X nt ops K ks T0 H0 fpr (⟨some i, op, ty, pos, af, some (j, want)⟩ :: l) T H :=
  GoD.step (f := (rd, [])) (w := [(i, v)]) (w' := []) (.inl ⟨.inr (.inl ⟨j, want, dj, b, rfl, hj, Nat.lt_of_succ_le (Nat.le_of_ble_eq_true hlt), hb, by simp [hbw]⟩), v, hop, rfl, rfl⟩) hK
theorem GoD.gs {j dj : Nat} {want b : Bool} (hj : (ops[j]?).bind (·.dst) = some dj) (hlt : Nat.blt dj nt = true) (hb : T dj = .bool b) (hbw : b = !want)
    (hK : GoD E X nt ops K ks T0 H0 (([], []) :: fpr) l (upd T i (.raw undef)) H) : GoD E X nt ops K ks T0 H0 fpr (⟨some i, op, ty, pos, af, some (j, want)⟩ :: l) T H :=
  GoD.step (f := ([], [])) (w := [(i, (.raw undef))]) (w' := []) (.inr ⟨.inr (.inl ⟨j, want, dj, b, rfl, hj, Nat.lt_of_succ_le (Nat.le_of_ble_eq_true hlt), hb, by simp [hbw]⟩), rfl, rfl, rfl⟩) hK
theorem GoD.gj {j dj : Nat} {want : Bool} (hj : (ops[j]?).bind (·.dst) = some dj) (hlt : Nat.blt dj nt = true) (hb : T dj = .raw undef)
    (hK : GoD E X nt ops K ks T0 H0 (([], []) :: fpr) l (upd T i (.raw undef)) H) : GoD E X nt ops K ks T0 H0 fpr (⟨some i, op, ty, pos, af, some (j, want)⟩ :: l) T H :=
  GoD.step (f := ([], [])) (w := [(i, (.raw undef))]) (w' := []) (.inr ⟨.inr (.inr ⟨j, want, dj, rfl, hj, Nat.lt_of_succ_le (Nat.le_of_ble_eq_true hlt), hb, rfl⟩), rfl, rfl, rfl⟩) hK
end
end
end Go.Proofs.YtfbjoamdkieamaaGreat.AM
end
