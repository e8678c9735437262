/-
The abstract evaluator: all operations but calls of functions, at an abstract state.
-/
import Derived.Test.YteinehkdjkobnaaEvI
set_option linter.unusedVariables false
set_option linter.unusedSimpArgs false
namespace Go.Ev
open Go

structure St where
  t : List AV
  h : List Ent

def nth (l : List AV) (k : Nat) : AV :=
  match l, k with
  | [], _ => .junk
  | x :: _, 0 => x
  | _ :: r, k + 1 => nth r k

def setT (l : List AV) (k : Nat) (v : AV) : List AV :=
  match l, k with
  | [], _ => []
  | _ :: r, 0 => v :: r
  | x :: r, k + 1 => x :: setT r k v

def hget (h : List Ent) (k : Nat) : Ent :=
  match h, k with
  | [], _ => .unborn
  | x :: _, 0 => x
  | _ :: r, k + 1 => hget r k

def setH (h : List Ent) (k : Nat) (e : Ent) : List Ent :=
  match h, k with
  | [], 0 => [e]
  | [], k + 1 => .unborn :: setH [] k e
  | _ :: r, 0 => e :: r
  | x :: r, k + 1 => x :: setH r k e

theorem nth_eq : ∀ (l : List AV) (k : Nat), nth l k = (l[k]?).getD .junk
  | [], k => by simp [nth]
  | x :: r, 0 => by simp [nth]
  | x :: r, k + 1 => by simp [nth, nth_eq r k]

theorem getElem?_setT : ∀ (l : List AV) (k : Nat) (v : AV) (j : Nat), (setT l k v)[j]? = if j = k ∧ k < l.length then some v else l[j]?
  | [], k, v, j => by simp [setT]
  | x :: r, 0, v, j => by cases j <;> simp [setT]
  | x :: r, k + 1, v, j => by
    cases j with
    | zero => simp [setT]
    | succ j => simp [setT, getElem?_setT r k v j]

theorem length_setT : ∀ (l : List AV) (k : Nat) (v : AV), (setT l k v).length = l.length
  | [], _, _ => rfl
  | _ :: _, 0, _ => rfl
  | _ :: r, k + 1, v => by simp [setT, length_setT r k v]

theorem hget_setH : ∀ (h : List Ent) (k : Nat) (e : Ent), hget (setH h k e) = upd (hget h) k e
  | [], 0, e => by funext j; cases j <;> simp [setH, hget, upd]
  | [], k + 1, e => by
    funext j
    cases j with
    | zero => simp [setH, hget, upd]
    | succ j => have := congrFun (hget_setH [] k e) j; simp [setH, hget, upd] at this ⊢; exact this
  | x :: r, 0, e => by funext j; cases j <;> simp [setH, hget, upd]
  | x :: r, k + 1, e => by
    funext j
    cases j with
    | zero => simp [setH, hget, upd]
    | succ j => have := congrFun (hget_setH r k e) j; simp [setH, hget, upd] at this ⊢; exact this

theorem hget_ge : ∀ (h : List Ent) (k : Nat), h.length ≤ k → hget h k = .unborn
  | [], k, _ => by simp [hget]
  | x :: r, 0, h => by simp at h
  | x :: r, k + 1, h => by simp [hget]; exact hget_ge r k (by simpa using h)

def appH (h : List Ent) : List (Nat × Ent) → List Ent
  | [] => h
  | (k, e) :: r => appH (setH h k e) r

theorem hget_appH : ∀ (U : List (Nat × Ent)) (h : List Ent), hget (appH h U) = app (hget h) U
  | [], _ => rfl
  | (k, e) :: r, h => by rw [appH, app, hget_appH r, hget_setH]

def St.val (s : St) : Operand → AV
  | .tmp k => nth s.t k
  | .const v => .v v
  | .func f => .fn f []
  | .global _ => .junk

def St.put (s : St) (d : Option Tmp) (v : AV) : St :=
  match d with
  | none => s
  | some k => { s with t := setT s.t k v }

/-- What is meant where the condition holds. -/
def AV.strip : AV → AV
  | .cnd _ x => x
  | x => x
/-- That it holds. -/
def AV.cond : AV → Prop
  | .cnd b _ => b = true
  | _ => True

theorem strip_rel {g : Gh} {x : AV} {c : Value} (h : VRel g x c) (hc : x.cond) : VRel g x.strip c := by
  cases h with
  | cnd h1 _ => exact h1 hc
  | v => exact .v _
  | ptr e => exact .ptr e
  | iptr c e1 e2 => exact .iptr c e1 e2
  | sl c e1 e2 e3 e4 e5 e6 => exact .sl c e1 e2 e3 e4 e5 e6
  | asl h => exact .asl h
  | asl0 => exact .asl0
  | nsl h e => exact .nsl h e
  | gslN => exact .gslN
  | gslF h => exact .gslF h
  | gslT h => exact .gslT h
  | bsl e h h' => exact .bsl e h h'
  | bsl0 => exact .bsl0
  | fn e h => exact .fn e h
  | ifc h => exact .ifc h
  | agg e h => exact .agg e h
  | tup e h => exact .tup e h
  | any1 h => exact .any1 h
  | junk => exact .junk _

def pickAV (q : Bool) (a b : AV) : Option AV :=
  match a, b with
  | .v (.bool x), .v (.bool y) => some (.v (.bool (bif q then x else y)))
  | _, _ => none

def evMinMax (mx : Bool) : List AV → Option Value
  | [] => none
  | .v (.int k a) :: r => go k a r
  | _ => none
where
  go (k : IntKind) (a : Int) : List AV → Option Value
    | [] => some (.int k a)
    | .v (.int _ b) :: r => go k (if mx then (if b > a then b else a) else (if b < a then b else a)) r
    | _ => none

def mapV (f : Operand → AV) (l : List (Nat × Operand)) : List (Nat × AV) := l.map fun p => (p.1, f p.2)

/-- The operands of an operation whose conditions are owed. -/
def opnds : Op → List Operand
  | .move x | .assign x | .box _ x | .load _ x | .nilCheck x | .unOp _ _ x | .convert _ _ x | .makeInterface _ x | .fieldAddr _ x _ | .field _ x _ | .extract x _ => [x]
  | .pick c _ _ => [c]
  | .build _ ps | .buildSlice _ _ ps => ps.toList.map (·.2)
  | .store _ a v | .binOp _ _ a v _ | .indexAddr _ a v | .index _ a v | .makeSlice _ a v => [a, v]
  | .slice _ x l h m => x :: (l.toList ++ h.toList ++ m.toList)
  | .makeFunc _ _ captured => captured.toList
  | .call c => (match c.callee with | .value f => [f] | _ => []) ++ c.args.toList
  | _ => []

def conds (val : Operand → AV) : List Operand → Prop
  | [] => True
  | x :: r => (val x).cond ∧ conds val r

theorem conds_mem {val : Operand → AV} : ∀ {l : List Operand} {x : Operand}, conds val l → x ∈ l → (val x).cond
  | y :: l, x, h, hx => by
    cases hx with
    | head => exact h.1
    | tail _ hm => exact conds_mem h.2 hm

def evBuiltin (E : Env) (H : Nat → Ent) (n : Nat) (f : Callee) (ats : Array TypeId) (xs : List AV) : Option Res :=
  match f, xs with
  | .builtin .len, [x] => match ats[0]? with
    | some t => if ats.size = 1 then (evLen E t x).map fun (k : Nat) => { r := .v (.int .i64 (k : Int)) } else none
    | none => none
  | .builtin .append, [s, x] => evAppend E H n ats s x
  | .builtin .min, xs => (evMinMax false xs).map fun v => { r := .v v }
  | .builtin .max, xs => (evMinMax true xs).map fun v => { r := .v v }
  | _, _ => none

def evOp (E : Env) (H : Nat → Ent) (n : Nat) (o : Op) (val0 : Operand → AV) : Option Res :=
  let val := fun x => (val0 x).strip
  match o with
  | .move x | .assign x => some { r := val x }
  | .pick c a b =>
    match val c with
    | .v (.bool q) => (pickAV q (val a) (val b)).map fun r => { r := r, ob := (q = true → (val0 a).cond) ∧ (q = false → (val0 b).cond) }
    | _ => none
  | .alloc t => (E.ty t).map fun i => { r := .ptr n 0, U := [(n, .box i.zero)] }
  | .box _ x => (val x).cells?.map fun l => { r := .ptr n 0, U := [(n, .box l)] }
  | .build t ps => (evBuild E t (mapV val ps.toList)).map fun r => { r := r }
  | .buildSlice t len ps => (evBuildSlice E t len (mapV val ps.toList)).map fun r => { r := r }
  | .load t a => (evLoad E H t (val a)).map fun r => { r := r }
  | .store t a x => (evStore E H t (val a) (val x)).map fun U => { r := .v undef, U := U }
  | .nilCheck x => match val x with
    | .ptr id off => some { r := .ptr id off }
    | .iptr c off => some { r := .iptr c off }
    | .fn f l => some { r := .fn f l }
    | _ => none
  | .binOp op t x y _ => evBin E op t (val x) (val y)
  | .unOp op _ x => match val x with
    | .v a => (unV op a).map fun v => { r := .v v }
    | _ => none
  | .convert s d x => evConvert E n s d (val x)
  | .makeFunc (.func f) first captured => if first.isEmpty = true then some { r := .fn f (captured.toList.map val) } else none
  | .slice t x lo hi mx => evSlice E H t (val x) (lo.map val) (hi.map val) (mx.map val)
  | .fieldAddr t x k => (evFieldAddr E t (val x) k).map fun r => { r := r }
  | .field t x k => (evField E t (val x) k).map fun r => { r := r }
  | .indexAddr t x ix => evIndexAddr E t (val x) (val ix)
  | .index t x ix => evIndex E t (val x) (val ix)
  | .extract x k => (evExtract (val x) k).map fun r => { r := r }
  | .call c => evBuiltin E H n c.callee c.argTypes (c.args.toList.map val)
  | _ => none

theorem run_maxs {P : Program} (mx : Bool) (w : World) {g : Gh} : ∀ (r : List AV) (vs : List Value) (k : IntKind) (a : Int) (v : Value), LRel g r vs → evMinMax.go mx k a r = some v →
    (vs.foldlM (if mx then Builtin.max2 else Builtin.min2) (.int k a)).run P w = .ok v w
  | [], vs, k, a, v, hr, h => by
    have : vs = [] := List.length_eq_zero_iff.1 (by simpa using hr.1.symm)
    subst this
    simp [evMinMax.go] at h; subst h; rfl
  | x :: r, [], k, a, v, hr, h => by have := hr.1; simp at this
  | x :: r, c :: vs, k, a, v, hr, h => by
    have hc := hr.2 0 x c rfl rfl
    have hr' : LRel g r vs := ⟨by simpa using hr.1, fun k x c a b => hr.2 (k + 1) x c (by simpa using a) (by simpa using b)⟩
    cases x with
    | v z =>
      cases z with
      | int k' b =>
        cases hc
        simp only [evMinMax.go] at h
        have ih := run_maxs (P := P) mx w r vs _ _ v hr' h
        cases mx <;> simp [Builtin.max2, Builtin.min2] at ih ⊢ <;> exact ih
      | _ => simp [evMinMax.go] at h
    | _ => simp [evMinMax.go] at h

theorem evMinMax_sound {P : Program} {g : Gh} {mx : Bool} {l : List AV} {vs : List Value} {v : Value} (hr : LRel g l vs) (h : evMinMax mx l = some v) (ats : Array TypeId) (ty : TypeId) (w : World) :
    ((if mx then Builtin.max_ else Builtin.min_) ats ty vs.toArray).run P w = .ok v w := by
  unfold evMinMax at h
  split at h
  · cases h
  · rename_i k a r
    cases vs with
    | nil => have := hr.1; simp at this
    | cons c vs =>
      have hc := hr.2 0 _ c rfl rfl
      cases hc
      have := run_maxs (P := P) mx w r vs k a v ⟨by simpa using hr.1, fun k x c a b => hr.2 (k + 1) x c (by simpa using a) (by simpa using b)⟩ h
      cases mx <;> simpa [Builtin.max_, Builtin.min_] using this
  · cases h

/-- Where an operation stands in the model: what it comes to there. -/
def Does (E : Env) (ρ : Operand → Value) (o : Oper) (w : World) (v : Value) (w' : World) : Prop :=
  (execOp ρ o).run E.P w = .ok (.value v) w' ∨ ((execOp ρ o).run E.P w = .ok .skip w' ∧ v = undef)

theorem evOp_sound {E : Env} (hE : E.Ok) (hQ : E.EqOk) {g : Gh} {H : Nat → Ent} {w : World} (hW : WRel g H w) {n : Nat} (hn : H n = .unborn) {o : Oper} {val0 : Operand → AV} {ρ : Operand → Value}
    (hv0 : ∀ x, VRel g (val0 x) (ρ x)) (hc : conds val0 (opnds o.op)) {res : Res} (h : evOp E H n o.op val0 = some res) (hob : res.ob) :
    ∃ v w' g', Does E ρ o w v w' ∧ VRel g' res.r v ∧ Evo g H w g' (app H res.U) w' := by
  have hv : ∀ x ∈ opnds o.op, VRel g (val0 x).strip (ρ x) := fun x hx => strip_rel (hv0 x) (conds_mem hc hx)
  unfold evOp at h
  simp only [] at h
  split at h
  · rename_i x ho
    cases h
    exact ⟨_, w, g, .inl (by simp [execOp, ho]), hv x (by simp [ho, opnds]), .refl hW⟩
  · rename_i x ho
    cases h
    exact ⟨_, w, g, .inl (by simp [execOp, ho]), hv x (by simp [ho, opnds]), .refl hW⟩
  · rename_i c a b ho
    have hcc := hv c (by simp [ho, opnds])
    split at h
    · rename_i q hq
      rw [hq] at hcc
      obtain ⟨r, hr, rfl⟩ := Option.map_eq_some_iff.1 h
      generalize hρc : ρ c = vc at hcc
      cases hcc
      unfold pickAV at hr
      split at hr
      · rename_i x y hx hy
        cases hr
        refine ⟨.bool (bif q then x else y), w, g, .inl ?_, .v _, .refl hW⟩
        cases q with
        | true =>
          have := strip_rel (hv0 a) (hob.1 rfl)
          rw [hx] at this
          generalize hρa : ρ a = va at this
          cases this
          simp [execOp, ho, hρc, hρa, asBool]
        | false =>
          have := strip_rel (hv0 b) (hob.2 rfl)
          rw [hy] at this
          generalize hρb : ρ b = vb at this
          cases this
          simp [execOp, ho, hρc, hρb, asBool]
      · cases hr
    · cases h
  · rename_i t ho
    obtain ⟨i, hi, rfl⟩ := Option.map_eq_some_iff.1 h
    obtain ⟨v, w', g', h1, h2, h3⟩ := evAlloc_sound hE hW hi hn
    exact ⟨v, w', g', .inl (by simp [execOp, ho, h1]), h2, h3⟩
  · rename_i t x ho
    obtain ⟨l, hl, rfl⟩ := Option.map_eq_some_iff.1 h
    obtain ⟨v, w', g', h1, h2, h3⟩ := evBox_sound (P := E.P) hW t (hv x (by simp [ho, opnds])) hl hn
    exact ⟨v, w', g', .inl (by simp [execOp, ho, h1]), h2, h3⟩
  · rename_i t ps ho
    obtain ⟨r, hr, rfl⟩ := Option.map_eq_some_iff.1 h
    obtain ⟨v, h1, h2⟩ := evBuild_sound hE (val := fun x => (val0 x).strip) (ρ := ρ) (ps := ps) (fun p hp => hv p.2 (by simp [ho, opnds]; exact ⟨p.1, hp⟩)) hr w
    exact ⟨v, w, g, .inl (by simp only [execOp, ho, Sem.run_bind, h1, Result.andThen_ok, Sem.run_pure]), h2, .refl hW⟩
  · rename_i t len ps ho
    obtain ⟨r, hr, rfl⟩ := Option.map_eq_some_iff.1 h
    obtain ⟨v, w', g', h1, h2, h3⟩ := evBuildSlice_sound hE hW (val := fun x => (val0 x).strip) (ρ := ρ) (ps := ps) (fun p hp => hv p.2 (by simp [ho, opnds]; exact ⟨p.1, hp⟩)) hr
    exact ⟨v, w', g', .inl (by simp only [execOp, ho, Sem.run_bind, h1, Result.andThen_ok, Sem.run_pure]), h2, h3⟩
  · rename_i t a ho
    obtain ⟨r, hr, rfl⟩ := Option.map_eq_some_iff.1 h
    obtain ⟨v, h1, h2⟩ := evLoad_sound hE hW (hv a (by simp [ho, opnds])) hr
    exact ⟨v, w, g, .inl (by simp [execOp, ho, h1]), h2, .refl hW⟩
  · rename_i t a x ho
    obtain ⟨U, hU, rfl⟩ := Option.map_eq_some_iff.1 h
    obtain ⟨w', h1, h2⟩ := evStore_sound hE hW (hv a (by simp [ho, opnds])) (hv x (by simp [ho, opnds])) hU
    exact ⟨undef, w', g, .inr ⟨by simp [execOp, ho, h1], rfl⟩, .v _, h2⟩
  · rename_i x ho
    have hx := hv x (by simp [ho, opnds])
    split at h
    · rename_i id off hxx
      cases h
      rw [hxx] at hx
      have hx0 := hx
      generalize hρ : ρ x = vx at hx
      cases hx
      exact ⟨ρ x, w, g, .inl (by simp [execOp, ho, hρ]), hx0, .refl hW⟩
    · rename_i c off hxx
      cases h
      rw [hxx] at hx
      have hx0 := hx
      generalize hρ : ρ x = vx at hx
      cases hx
      exact ⟨ρ x, w, g, .inl (by simp [execOp, ho, hρ]), hx0, .refl hW⟩
    · rename_i f l hxx
      cases h
      rw [hxx] at hx
      have hx0 := hx
      generalize hρ : ρ x = vx at hx
      cases hx
      exact ⟨ρ x, w, g, .inl (by simp [execOp, ho, hρ]), hx0, .refl hW⟩
    · cases h
  · rename_i op t x y yt ho
    obtain ⟨v, h1, h2, h3⟩ := evBin_sound hE hQ (hv x (by simp [ho, opnds])) (hv y (by simp [ho, opnds])) h hob x y w
    refine ⟨v, w, g, .inl ?_, h2, by rw [h3]; exact .refl hW⟩
    simp only [execOp, ho]
    rw [Sem.run_bind, h1]
    rfl
  · rename_i op t x ho
    have hx := hv x (by simp [ho, opnds])
    split at h
    · rename_i a hxx
      rw [hxx] at hx
      generalize hρ : ρ x = vx at hx
      cases hx
      obtain ⟨v, hv', rfl⟩ := Option.map_eq_some_iff.1 h
      exact ⟨v, w, g, .inl (by simp [execOp, ho, hρ, unV_sound hv']), .v _, .refl hW⟩
    · cases h
  · rename_i s d x ho
    obtain ⟨v, w', g', h1, h2, h3⟩ := evConvert_sound hE hW hn (hv x (by simp [ho, opnds])) h
    exact ⟨v, w', g', .inl (by simp [execOp, ho, h1]), h2, h3⟩
  · rename_i f first captured ho
    split at h
    · rename_i hemp
      cases h
      have hf : first = #[] := by simpa using hemp
      subst hf
      refine ⟨_, w, g, .inl (by simp only [execOp, ho, Instr.makeFunc, Sem.run_bind, Sem.run_pure, Result.andThen_ok, Array.map_empty]; rfl), ?_, .refl hW⟩
      refine .fn (by simp) fun k x c hx hc => ?_
      simp at hx hc
      obtain ⟨y, hy, rfl⟩ := hx
      rw [hy] at hc
      simp at hc; subst hc
      exact hv y (by simp [ho, opnds]; exact Array.mem_of_getElem? hy)
    · cases h
  · rename_i t x lo hi mx ho
    have aux : ∀ (z : Option Operand), (∀ y, z = some y → y ∈ opnds o.op) → ∀ a, z.map (fun x => (val0 x).strip) = some a → ∃ v, z.map ρ = some v ∧ VRel g a v := fun z hz a ha => by
      cases z with
      | none => simp at ha
      | some y => simp at ha; subst ha; exact ⟨_, rfl, hv y (hz y rfl)⟩
    have aux' : ∀ (z : Option Operand), z.map (fun x => (val0 x).strip) = none → z.map ρ = none := fun z hz => by cases z <;> simp at hz ⊢
    obtain ⟨v, g', h1, h2, h3⟩ := evSlice_sound hE hW (hv x (by simp [ho, opnds])) (aux lo (fun y e => by simp [ho, opnds, e])) (aux' lo) (aux hi (fun y e => by simp [ho, opnds, e])) (aux' hi)
      (aux mx (fun y e => by simp [ho, opnds, e])) (aux' mx) h hob
    exact ⟨v, w, g', .inl (by simp [execOp, ho, h1]), h2, h3⟩
  · rename_i t x k ho
    obtain ⟨r, hr, rfl⟩ := Option.map_eq_some_iff.1 h
    obtain ⟨v, h1, h2⟩ := evFieldAddr_sound hE (hv x (by simp [ho, opnds])) hr w
    exact ⟨v, w, g, .inl (by simp [execOp, ho, h1]), h2, .refl hW⟩
  · rename_i t x k ho
    obtain ⟨r, hr, rfl⟩ := Option.map_eq_some_iff.1 h
    obtain ⟨v, h1, h2⟩ := evField_sound hE (hv x (by simp [ho, opnds])) hr w
    exact ⟨v, w, g, .inl (by simp [execOp, ho, h1]), h2, .refl hW⟩
  · rename_i t x ix ho
    obtain ⟨v, h1, h2, h3⟩ := evIndexAddr_sound hE (hv x (by simp [ho, opnds])) (hv ix (by simp [ho, opnds])) h hob w
    exact ⟨v, w, g, .inl (by simp [execOp, ho, h1]), h2, by rw [h3]; exact .refl hW⟩
  · rename_i t x ix ho
    obtain ⟨v, h1, h2, h3⟩ := evIndex_sound hE (hv x (by simp [ho, opnds])) (hv ix (by simp [ho, opnds])) h hob w
    exact ⟨v, w, g, .inl (by simp [execOp, ho, h1]), h2, by rw [h3]; exact .refl hW⟩
  · rename_i x k ho
    obtain ⟨r, hr, rfl⟩ := Option.map_eq_some_iff.1 h
    obtain ⟨v, h1, h2⟩ := evExtract_sound (P := E.P) (hv x (by simp [ho, opnds])) hr w
    exact ⟨v, w, g, .inl (by simp [execOp, ho, h1]), h2, .refl hW⟩
  · rename_i c ho
    have hall : LRel g (c.args.toList.map fun x => (val0 x).strip) (c.args.toList.map ρ) := ⟨by simp, fun k x v a b => by
      simp at a b
      obtain ⟨y, hy, rfl⟩ := a
      rw [hy] at b
      simp at b; subst b
      exact hv y (by simp only [ho, opnds, List.mem_append]; exact .inr (by simpa using Array.mem_of_getElem? hy))⟩
    have hargs : c.args.map ρ = (c.args.toList.map ρ).toArray := by apply Array.ext'; simp
    generalize c.args.toList.map (fun x => (val0 x).strip) = xs at h hall
    generalize hvs : c.args.toList.map ρ = vs at hall
    rw [hvs] at hargs
    unfold evBuiltin at h
    split at h
    · rename_i x hcal
      obtain ⟨vx, rfl⟩ : ∃ vx, vs = [vx] := List.length_eq_one_iff.1 (by simpa using hall.1.symm)
      have hx := hall.2 0 x vx rfl rfl
      split at h
      · rename_i t hats
        split at h
        · rename_i hsz
          obtain ⟨k, hk, rfl⟩ := Option.map_eq_some_iff.1 h
          have h1 := evLen_sound hE hx hk o.type w
          have ha : c.argTypes = #[t] := by
            obtain ⟨y, hy⟩ := List.length_eq_one_iff.1 (show c.argTypes.toList.length = 1 by simpa using hsz)
            have hy2 : c.argTypes = #[y] := by apply Array.ext'; simpa using hy
            rw [hy2] at hats ⊢
            simpa using hats
          exact ⟨_, w, g, .inl (by simp [execOp, ho, resolve, hcal, invoke, builtin, hargs, ha, h1]), .v _, .refl hW⟩
        · cases h
      · cases h
    · rename_i s x hcal
      obtain ⟨vs', vx, rfl⟩ : ∃ a b, vs = [a, b] := by
        have := hall.1
        match vs, this with
        | [a, b], _ => exact ⟨a, b, rfl⟩
      obtain ⟨v, w', g', h1, h2, h3⟩ := evAppend_sound hE hW hn (hall.2 0 s vs' rfl rfl) (hall.2 1 x vx rfl rfl) h hob o.type
      exact ⟨v, w', g', .inl (by simp [execOp, ho, resolve, hcal, invoke, builtin, hargs, h1]), h2, h3⟩
    · rename_i xs' hcal
      obtain ⟨v, hv', rfl⟩ := Option.map_eq_some_iff.1 h
      have h1 := evMinMax_sound (P := E.P) hall hv' c.argTypes o.type w
      simp only [Bool.false_eq_true, if_false] at h1
      exact ⟨v, w, g, .inl (by simp [execOp, ho, resolve, hcal, invoke, builtin, hargs, h1]), .v _, .refl hW⟩
    · rename_i xs' hcal
      obtain ⟨v, hv', rfl⟩ := Option.map_eq_some_iff.1 h
      have h1 := evMinMax_sound (P := E.P) hall hv' c.argTypes o.type w
      simp only [if_true] at h1
      exact ⟨v, w, g, .inl (by simp [execOp, ho, resolve, hcal, invoke, builtin, hargs, h1]), .v _, .refl hW⟩
    · cases h
  · cases h

end Go.Ev
