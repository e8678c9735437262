/-
Contracts of functions over abstract values, and the operations of a region one behind the other.
-/
import Derived.Test.YteinehkdjkobnaaEvJ
set_option linter.unusedVariables false
set_option linter.unusedSimpArgs false
namespace Go.Ev
open Go

/-- A function that is entered where it is called. -/
def Entered (E : Env) (f : FuncId) : Prop := ∃ fn, E.P.funcs[f]? = some fn ∧ fn.body.isSome = true ∧ (fn.name == "runtime.NumGoroutine") = false

/-- The contract: called with these arguments, where these boxes are what its pointers name, it answers r and leaves those boxes. -/
def FnSpec (E : Env) (f : FuncId) (args : List AV) (L : List Ent) (r : AV) (L' : List Ent) : Prop :=
  Entered E f ∧ ∀ g w (cargs : Array Value), WRel g (hget L) w → LRel g args cargs.toList →
    Calls E.P f cargs w fun e w' => ∃ v g', e = .returned v ∧ VRel g' r v ∧ Evo g (hget L) w g' (hget L') w'

/-- A value that names no box. -/
def NoId (x : AV) : Prop := ∀ I ρ v, VRel ⟨I, ρ⟩ x v → VRel ⟨I, fun _ => none⟩ x v

def NoIds : List AV → Prop
  | [] => True
  | x :: r => NoId x ∧ NoIds r

theorem NoIds.mem {l : List AV} (h : NoIds l) {k : Nat} {x : AV} (hx : l[k]? = some x) : NoId x := by
  induction l generalizing k with
  | nil => simp at hx
  | cons y l ih =>
    cases k with
    | zero => simp at hx; subst hx; exact h.1
    | succ k => exact ih h.2 (by simpa using hx)

theorem NoIds.of_all {l : List AV} (h : ∀ x ∈ l, NoId x) : NoIds l := by
  induction l with
  | nil => trivial
  | cons x l ih => exact ⟨h x (by simp), ih fun y hy => h y (by simp [hy])⟩

theorem NoId.v (x : Value) : NoId (.v x) := fun _ _ _ h => by cases h; exact .v _
theorem NoId.agg {l : List AV} (h : NoIds l) : NoId (.agg l) := fun I ρ v hv => by
  cases hv with
  | agg e h1 => exact .agg e fun k x c a b => (h.mem a) _ _ _ (h1 k x c a b)
theorem NoId.tup {l : List AV} (h : NoIds l) : NoId (.tup l) := fun I ρ v hv => by
  cases hv with
  | tup e h1 => exact .tup e fun k x c a b => (h.mem a) _ _ _ (h1 k x c a b)
theorem NoId.fn {f : FuncId} {l : List AV} (h : NoIds l) : NoId (.fn f l) := fun I ρ v hv => by
  cases hv with
  | fn e h1 => exact .fn e fun k x c a b => (h.mem a) _ _ _ (h1 k x c a b)
def NoIdss (l : List (List AV)) : Prop := ∀ cs ∈ l, NoIds cs
theorem NoId.sl {sz : Nat} {l : List (List AV)} {tok : Tok} (ht : ∀ t, tok ≠ .tail t) (h : NoIdss l) : NoId (.sl sz l tok) := fun I ρ v hv => by
  cases hv with
  | sl c e1 e2 e3 e4 e5 e6 =>
    refine .sl c e1 e2 e3 e4 (fun i cs k x a b => ((h cs (List.mem_of_getElem? a)).mem b) _ _ _ (e5 i cs k x a b)) ?_
    cases tok with
    | no => trivial
    | full => exact e6
    | tail t => exact absurd rfl (ht t)
theorem NoId.asl {sz : Nat} {l : List (List AV)} (h : NoIdss l) : NoId (.asl sz l) := fun I ρ v hv => by
  cases hv with
  | asl hv => exact .asl (NoId.sl (by simp) h _ _ _ hv)
  | asl0 => exact .asl0
theorem NoId.nsl {sz : Nat} {l : List (List AV)} (h : NoIdss l) : NoId (.nsl sz l) := fun I ρ v hv => by
  cases hv with
  | nsl hv e => exact .nsl (NoId.asl h _ _ _ hv) e
theorem NoId.ifc {t : TypeId} {x : AV} (h : NoId x) : NoId (.ifc t x) := fun I ρ v hv => by
  cases hv with
  | ifc h1 => exact .ifc (h _ _ _ h1)

theorem NoId.any1 : NoId .any1 := fun I ρ v hv => by
  cases hv with
  | any1 h => exact .any1 h
theorem noId_v (x : Value) : NoId (.v x) ↔ True := iff_true_intro (.v x)
theorem noIds_nil : NoIds [] ↔ True := Iff.rfl
theorem noIds_cons (x : AV) (l : List AV) : NoIds (x :: l) ↔ NoId x ∧ NoIds l := Iff.rfl

theorem heap_ext_of_Fr {w w' : World} (h : Fr (fun _ _ => False) w w') {b : Nat} (hb : b < w.heap.size) : w'.heap[b]? = w.heap[b]? := by
  cases ho : w.heap[b]? with
  | none => rw [Array.getElem?_eq_none_iff] at ho; omega
  | some o =>
    cases o with
    | cells cs T fr =>
      obtain ⟨cs', fr', e1, e2, e3, e4⟩ := h.cells b cs T fr ho
      have : fr' = fr := e4.elim id fun ⟨_, h⟩ => h.elim
      subst this
      rw [e1]
      have : cs' = cs := by
        apply Array.ext_getElem?
        intro i
        exact e3 i (fun h => h)
      rw [this]
    | _ => exact h.objs b _ ho (by simp)

/-- A call that touches no box. -/
theorem call_pure {E : Env} {f : FuncId} {args : List AV} {r : AV} (hs : FnSpec E f args [] r []) (hno : NoIds args) {g : Gh} {H : Nat → Ent} {w : World} (hW : WRel g H w) {cargs : Array Value} (ha : LRel g args cargs.toList) :
    Calls E.P f cargs w fun e w' => ∃ v g', e = .returned v ∧ VRel g' r v ∧ Evo g H w g' H w' := by
  have hempty : ∀ k, hget [] k = .unborn := fun k => hget_ge [] k (Nat.zero_le _)
  have hM : ∀ b o, ¬ MutOf (⟨g.I, fun _ => none⟩ : Gh) (hget []) b o := fun b o ⟨id, lo, n, _, h, _⟩ => by cases h
  have hW0 : WRel (⟨g.I, fun _ => none⟩ : Gh) (hget []) w :=
    ⟨hW.imm, fun id => by rw [hempty]; trivial, fun _ _ => rfl, fun _ _ _ _ _ _ _ h _ => by cases h⟩
  refine (hs.2 ⟨g.I, fun _ => none⟩ w cargs hW0 ⟨ha.1, fun k x c a b => (hno.mem a) _ _ _ (ha.2 k x c a b)⟩).mono ?_
  rintro e w' ⟨v, g1, rfl, hv, hev⟩
  have hρ1 : ∀ id, g1.ρ id = none := fun id => hev.rel.fresh id (hempty id)
  have hle1 : g1.le ⟨g1.I, g.ρ⟩ := ⟨fun _ _ _ h => h, fun id x h => by rw [hρ1] at h; cases h⟩
  have hle : g.le ⟨g1.I, g.ρ⟩ := ⟨hev.le.I, fun _ _ h => h⟩
  have hfr : Fr (fun _ _ => False) w w' := hev.fr.mono fun b o _ h => hM b o h
  refine ⟨v, ⟨g1.I, g.ρ⟩, rfl, hv.mono hle1, hle, ⟨hev.rel.imm, fun id => ?_, hW.fresh, hW.inj⟩, hfr.mono fun _ _ _ h => h.elim, fun b o x h => ?_, fun id b lo n hl h => .inr ⟨id, lo, n, hl, h, Nat.le_refl _⟩⟩
  · refine (hW.ent id).keep hle (fun _ => rfl) fun b lo n hl h => ?_
    obtain ⟨cs, T, fr, h1, _, _, h4⟩ := hW.live_lt hl h
    have hb := lt_of_heap h1
    refine ⟨heap_ext_of_Fr hfr hb, fun o ho => ?_⟩
    show g1.I b o = g.I b o
    rw [h4 o ho]
    cases hI : g1.I b o with
    | none => rfl
    | some x =>
      rcases hev.grow b o x hI with h' | h' | h'
      · have := h4 o ho; rw [h'] at this; cases this
      · omega
      · exact absurd h' (hM b o)
  · rcases hev.grow b o x h with h' | h' | h'
    · exact .inl h'
    · exact .inr (.inl h')
    · exact absurd h' (hM b o)

structure StRel (g : Gh) (s : St) (a : Act) (w : World) : Prop where
  len : s.t.length = a.tmps.size
  t : ∀ (k : Nat) (x : AV) (c : Value), s.t[k]? = some x → a.tmps[k]? = some c → VRel g x c
  defers : a.defers = []
  rel : WRel g (hget s.h) w

theorem StRel.val {g : Gh} {s : St} {a : Act} {w : World} (h : StRel g s a w) (x : Operand) : VRel g (s.val x) (a.eval x) := by
  cases x with
  | tmp k =>
    simp only [St.val, Act.eval, nth_eq]
    cases hk : s.t[k]? with
    | none => exact .junk _
    | some y =>
      have hlt : k < a.tmps.size := by
        rw [← h.len]
        rcases Nat.lt_or_ge k s.t.length with h' | h'
        · exact h'
        · rw [List.getElem?_eq_none h'] at hk; cases hk
      have := h.t k y _ hk (Array.getElem?_eq_getElem hlt)
      simpa [hlt] using this
  | const v => exact .v v
  | func f => exact .fn rfl (by simp)
  | global n => exact .junk _

theorem StRel.put {g g' : Gh} {s : St} {a : Act} {w w' : World} (h : StRel g s a w) (hle : g.le g') {h' : List Ent} (hW : WRel g' (hget h') w') (d : Option Tmp) {x : AV} {c : Value} (hx : VRel g' x c) :
    StRel g' ((⟨s.t, h'⟩ : St).put d x) (a.put d c) w' := by
  cases d with
  | none => exact ⟨h.len, fun k y c a b => (h.t k y c a b).mono hle, h.defers, hW⟩
  | some d =>
    refine ⟨by simp [St.put, Act.put, length_setT, h.len], fun k y c' e1 e2 => ?_, h.defers, hW⟩
    simp only [St.put] at e1
    simp only [Act.put] at e2
    rw [getElem?_setT] at e1
    split at e1
    · rename_i hc
      obtain ⟨rfl, hlt⟩ := hc
      cases e1
      rw [Array.getElem?_setIfInBounds_self_of_lt (by rw [← h.len]; exact hlt)] at e2
      cases e2; exact hx
    · rename_i hc
      by_cases hk : k = d
      · subst hk
        have hlt : k < a.tmps.size := by
          rcases Nat.lt_or_ge k a.tmps.size with h' | h'
          · exact h'
          · rw [Array.getElem?_eq_none (by simpa using h')] at e2; cases e2
        exact absurd ⟨rfl, by rw [h.len]; exact hlt⟩ hc
      · rw [Array.getElem?_setIfInBounds_ne (Ne.symm hk)] at e2
        exact (h.t k y c' e1 e2).mono hle

/-! ### Guards -/

def guardB (x : AV) (want : Bool) : Option Bool :=
  match x with
  | .v (.bool b) => some (b == want)
  | .cnd B (.v (.bool b)) => some (B && (b == want))
  | _ => none

def guardOf (ops : Array Oper) (st : St) (o : Oper) : Option (Option Bool) :=
  match o.guard with
  | none => some none
  | some (j, want) => match (ops[j]?).bind (·.dst) with
    | some d => (guardB (nth st.t d) want).map some
    | none => none

theorem guardOf_none {ops : Array Oper} {st : St} {o : Oper} (h : guardOf ops st o = some none) (y : Nat → Option Bool) : Region.wanted o y = true := by
  unfold guardOf at h
  unfold Region.wanted
  split at h
  · rename_i hg; rw [hg]
  · split at h
    · obtain ⟨b, _, hb⟩ := Option.map_eq_some_iff.1 h; cases hb
    · cases h

theorem guardOf_some {ops : Array Oper} {g : Gh} {st : St} {a : Act} {w : World} (hr : StRel g st a w) {o : Oper} {B : Bool} (h : guardOf ops st o = some (some B)) : Region.wanted o (yielded ops a.tmps) = B := by
  unfold guardOf at h
  unfold Region.wanted
  split at h
  · cases h
  · rename_i j want hg
    rw [hg]
    split at h
    · rename_i d hd
      obtain ⟨b, hb, hB⟩ := Option.map_eq_some_iff.1 h
      cases hB
      have hval := hr.val (.tmp d)
      simp only [St.val, Act.eval] at hval
      have hlt : d < a.tmps.size := by
        rcases Nat.lt_or_ge d a.tmps.size with h' | h'
        · exact h'
        · rw [nth_eq, List.getElem?_eq_none (by rw [hr.len]; exact h')] at hb; simp [guardB] at hb
      have hy : yielded ops a.tmps j = match a.tmps.getD d undef with | .bool b => some b | _ => none := by
        have : a.tmps.getD d undef = a.tmps[d] := by simp [Array.getD, hlt]
        rw [this]
        simp only [yielded, hd, Option.bind_some, Array.getElem?_eq_getElem hlt]
        cases a.tmps[d] <;> rfl
      simp only [hy]
      clear hy
      unfold guardB at hb
      split at hb
      · rename_i b' hx
        cases hb
        rw [hx] at hval
        generalize a.tmps.getD d undef = c at hval ⊢
        cases hval
        cases b' <;> cases want <;> rfl
      · rename_i B' b' hx
        cases hb
        rw [hx] at hval
        generalize a.tmps.getD d undef = c at hval ⊢
        cases hval with
        | cnd h1 h2 =>
          cases B' with
          | true => have := h1 rfl; cases this; cases b' <;> cases want <;> rfl
          | false => rw [h2 rfl]; rfl
      · cases hb
    · cases h

def cndize (G : Option Bool) (r : AV) : AV := match G with | none => r | some b => .cnd b r
def underG (G : Option Bool) (p : Prop) : Prop := match G with | none => p | some b => b = true → p

/-! ### Calls -/

def callOf (st : St) (o : Op) : Option (FuncId × List AV) :=
  match o with
  | .call c => match c.callee with
    | .value f => match (st.val f).strip with
      | .fn fid cap => some (fid, (c.args.toList.map fun x => (st.val x).strip) ++ cap)
      | _ => none
    | _ => none
  | _ => none

theorem run_call {E : Env} {g : Gh} {st : St} {a : Act} {w : World} (hr : StRel g st a w) {o : Oper} {f : FuncId} {args : List AV} (h : callOf st o.op = some (f, args)) (hc : conds st.val (opnds o.op)) (he : Entered E f) :
    ∃ cargs : Array Value, (execOp a.eval o).run E.P w = .ok (.enter f cargs) w ∧ LRel g args cargs.toList := by
  unfold callOf at h
  split at h
  · rename_i c ho
    split at h
    · rename_i fo hcal
      split at h
      · rename_i fid cap hf
        cases h
        obtain ⟨fn, h1, h2, h3⟩ := he
        have hop : opnds o.op = [fo] ++ c.args.toList := by rw [ho]; simp only [opnds, hcal]
        have hfr := strip_rel (hr.val fo) (conds_mem hc (by rw [hop]; simp))
        rw [hf] at hfr
        generalize hvf : a.eval fo = vf at hfr
        cases hfr with
        | fn e1 e2 =>
          rename_i cs
          refine ⟨c.args.map a.eval ++ cs, ?_, ?_⟩
          · have hb : fn.body ≠ none := fun e => by rw [e] at h2; cases h2
            have h3' : ¬ fn.name = "runtime.NumGoroutine" := by simpa using h3
            simp [execOp, ho, resolve, hcal, hvf, Deferred.ofValue, invoke, callFunc, h1, h3', hb]
          · rw [Array.toList_append]
            refine LRel.append ⟨by simp, fun k x v e e' => ?_⟩ ⟨by simpa using e1, fun k x v e e' => e2 k x v e (by simpa using e')⟩
            simp at e e'
            obtain ⟨y, hy, rfl⟩ := e
            rw [hy] at e'
            simp at e'; subst e'
            exact strip_rel (hr.val y) (conds_mem hc (by rw [hop]; simp; right; exact Array.mem_of_getElem? hy))
      · cases h
    · cases h
  · cases h

end Go.Ev
