/-
The operations of a region at an abstract state, one behind the other; and that any order that the region's edges allow comes to the same.
-/
import Derived.Test.YtphjnagmlgmdfaaEvK
set_option linter.unusedVariables false
set_option linter.unusedSimpArgs false
set_option linter.unnecessarySimpa false
namespace Go.Ev
open Go

/-- What an operation came to: its value, what it wrote, the boxes that it looked at or wrote. -/
structure Rec where
  r : AV
  U : List (Nat × Ent)
  F : List Nat
  deriving Inhabited

def St.after (s : St) (o : Oper) (x : Rec) : St := (⟨s.t, appH s.h x.U⟩ : St).put o.dst x.r

/-- What is asked of the model at an operation. -/
def opWp (E : Env) (ops : Array Oper) (o : Oper) (a : Act) (w : World) (next : Act → World → Prop) (Q : Exit → Act → World → Prop) : Prop :=
  if Region.wanted o (yielded ops a.tmps) then o.wp E.P a w next Q else next (a.put o.dst undef) w

/-- The operation comes to x at every state that agrees with this one on what it looks at. -/
def Local (E : Env) (ops : Array Oper) (o : Oper) (s : St) (x : Rec) : Prop :=
  ∀ (s' : St) g a w, StRel g s' a w → (∀ d ∈ o.looksAt ops, nth s'.t d = nth s.t d) → (∀ id ∈ x.F, hget s'.h id = hget s.h id) →
    ∀ (next : Act → World → Prop) (Q : Exit → Act → World → Prop),
      (∀ g' a' w', StRel g' (s'.after o x) a' w' → Evo g (hget s'.h) w g' (hget (appH s'.h x.U)) w' → next a' w') → opWp E ops o a w next Q

theorem val_agree {ops : Array Oper} {o : Oper} {s s' : St} (h : ∀ d ∈ o.looksAt ops, nth s'.t d = nth s.t d) : ∀ x ∈ o.op.operands, s'.val x = s.val x := by
  intro x hx
  cases x with
  | tmp t => exact h t (List.mem_append_left _ (List.mem_filterMap.2 ⟨.tmp t, by simpa using hx, rfl⟩))
  | _ => rfl

theorem guard_agree {ops : Array Oper} {o : Oper} {s s' : St} (h : ∀ d ∈ o.looksAt ops, nth s'.t d = nth s.t d) : guardOf ops s' o = guardOf ops s o := by
  unfold guardOf
  split
  · rfl
  · rename_i j want hg
    split
    · rename_i d hd
      rw [h d (List.mem_append_right _ (by rw [hg]; simp [hd]))]
    · rfl

theorem opnds_sub (op : Op) : ∀ x ∈ opnds op, x ∈ op.operands := by
  intro x hx
  cases op with
  | call c =>
    simp only [opnds, List.mem_append] at hx
    simp only [Op.operands, Call.operands, Array.mem_append]
    rcases hx with hx | hx
    · left
      cases hc : c.callee <;> simp_all
    · right; simpa using hx
  | slice t x lo hi mx =>
    simp only [opnds, List.mem_cons, List.mem_append] at hx
    simp only [Op.operands, Array.mem_append]
    rcases hx with rfl | (hx | hx) | hx
    · left; left; left; simp
    · left; left; right; simpa using hx
    · left; right; simpa using hx
    · right; simpa using hx
  | build t ps => simpa [opnds, Op.operands] using hx
  | buildSlice t n ps => simpa [opnds, Op.operands] using hx
  | makeFunc fn first captured => simp only [opnds] at hx; simp only [Op.operands, Array.mem_append]; right; simpa using hx
  | pick c a b => simp only [opnds] at hx; simp [Op.operands]; left; simpa using hx
  | _ => simpa [opnds, Op.operands] using hx

theorem conds_congr {val val' : Operand → AV} : ∀ {l : List Operand}, (∀ x ∈ l, val' x = val x) → (conds val' l ↔ conds val l)
  | [], _ => Iff.rfl
  | x :: l, h => by simp only [conds]; rw [h x (by simp), conds_congr (l := l) fun y hy => h y (by simp [hy])]

/-- The boxes that an operation looks at. -/
def ptrIds : AV → List Nat
  | .ptr id _ => [id]
  | .sl _ _ (.tail t) => [t]
  | _ => []

def foot (o : Op) (val : Operand → AV) : List Nat :=
  match o with
  | .load _ a => ptrIds (val a).strip
  | .store _ a _ => ptrIds (val a).strip
  | .slice _ x _ _ _ => ptrIds (val x).strip
  | .call c => match c.callee with
    | .builtin .append => match c.args.toList.map fun x => (val x).strip with
      | [s, _] => ptrIds s
      | _ => []
    | _ => []
  | _ => []

theorem evStore_congr {E : Env} {H H' : Nat → Ent} {t : TypeId} {a x : AV} (h : ∀ id ∈ ptrIds a, H' id = H id) : evStore E H' t a x = evStore E H t a x := by
  cases a with
  | ptr id off =>
    have e := h id (by simp [ptrIds])
    unfold evStore
    generalize E.ty t = T
    generalize x.cells? = C
    cases T <;> cases C <;> first
      | rfl
      | simp only [e]
  | _ => unfold evStore; generalize E.ty t = T; cases T <;> rfl

theorem evSlice_congr {E : Env} {H H' : Nat → Ent} {t : TypeId} {x : AV} {lo hi mx : Option AV} (h : ∀ id ∈ ptrIds x, H' id = H id) : evSlice E H' t x lo hi mx = evSlice E H t x lo hi mx := by
  unfold evSlice
  split
  · rfl
  · rfl
  · rfl
  · rfl
  · split
    · rw [h _ (by simp [ptrIds])]
    · rfl
    · rfl
  · rfl

theorem evAppend_congr {E : Env} {H H' : Nat → Ent} {n : Nat} {ats : Array TypeId} {s x : AV} (h : ∀ id ∈ ptrIds s, H' id = H id) : evAppend E H' n ats s x = evAppend E H n ats s x := by
  have key : ∀ sz elems t, s = .sl sz elems (.tail t) → H' t = H t := fun sz elems t e => h t (by subst e; simp [ptrIds])
  unfold evAppend
  split
  · split
    · split
      · split
        · rfl
        · split
          · split
            · rfl
            · rfl
            · rename_i sz elems t; rw [key _ _ _ rfl]
            · rfl
          · rfl
      · rfl
    · rfl
  · rfl

theorem evOp_local {E : Env} {H H' : Nat → Ent} {n : Nat} {o : Op} {val val' : Operand → AV} (hv : ∀ x ∈ o.operands, val' x = val x) (hH : ∀ id ∈ foot o val, H' id = H id) :
    evOp E H' n o val' = evOp E H n o val := by
  cases o with
  | move x => simp only [evOp]; rw [hv x (by simp [Op.operands])]
  | assign x => simp only [evOp]; rw [hv x (by simp [Op.operands])]
  | pick c a b => simp only [evOp]; rw [hv c (by simp [Op.operands]), hv a (by simp [Op.operands]), hv b (by simp [Op.operands])]
  | alloc t => rfl
  | box t x => simp only [evOp]; rw [hv x (by simp [Op.operands])]
  | build t ps =>
    have : mapV (fun x => (val' x).strip) ps.toList = mapV (fun x => (val x).strip) ps.toList := List.map_congr_left fun p hp => by simp only [hv p.2 (by simp [Op.operands]; exact ⟨p.1, by simpa using hp⟩)]
    simp only [evOp]; rw [this]
  | buildSlice t n ps =>
    have : mapV (fun x => (val' x).strip) ps.toList = mapV (fun x => (val x).strip) ps.toList := List.map_congr_left fun p hp => by simp only [hv p.2 (by simp [Op.operands]; exact ⟨p.1, by simpa using hp⟩)]
    simp only [evOp]; rw [this]
  | load t a =>
    simp only [evOp]; rw [hv a (by simp [Op.operands])]
    have : cellsAt H' (val a).strip = cellsAt H (val a).strip := by
      generalize hx : (val a).strip = x
      simp only [foot, hx] at hH
      cases x with
      | ptr id off => simp [ptrIds] at hH; simp only [cellsAt, hH]
      | _ => rfl
    simp only [evLoad, this]
  | store t a x =>
    simp only [evOp]; rw [hv a (by simp [Op.operands]), hv x (by simp [Op.operands])]
    rw [evStore_congr (H := H) (H' := H') (fun id hid => hH id hid)]
  | nilCheck x => simp only [evOp]; rw [hv x (by simp [Op.operands])]
  | binOp op t x y yt => simp only [evOp]; rw [hv x (by simp [Op.operands]), hv y (by simp [Op.operands])]
  | unOp op t x => simp only [evOp]; rw [hv x (by simp [Op.operands])]
  | convert s d x => simp only [evOp]; rw [hv x (by simp [Op.operands])]
  | makeFunc fn first captured =>
    cases fn with
    | func f =>
      have : (captured.toList.map fun x => (val' x).strip) = captured.toList.map fun x => (val x).strip := List.map_congr_left fun x hx => by rw [hv x (by simp only [Op.operands, Array.mem_append]; right; simpa using hx)]
      simp only [evOp]; rw [this]
    | _ => rfl
  | slice t x lo hi mx =>
    have hx := hv x (by simp [Op.operands])
    have aux : ∀ z : Option Operand, (∀ y, z = some y → y ∈ (Op.slice t x lo hi mx).operands) → z.map (fun x => (val' x).strip) = z.map fun x => (val x).strip := fun z hz => by
      cases z with
      | none => rfl
      | some y => simp only [Option.map_some]; rw [hv y (hz y rfl)]
    simp only [evOp]
    rw [hx, aux lo (fun y e => by simp [Op.operands, e]), aux hi (fun y e => by simp [Op.operands, e]), aux mx (fun y e => by simp [Op.operands, e])]
    exact evSlice_congr fun id hid => hH id hid
  | fieldAddr t x k => simp only [evOp]; rw [hv x (by simp [Op.operands])]
  | field t x k => simp only [evOp]; rw [hv x (by simp [Op.operands])]
  | indexAddr t x ix => simp only [evOp]; rw [hv x (by simp [Op.operands]), hv ix (by simp [Op.operands])]
  | index t x ix => simp only [evOp]; rw [hv x (by simp [Op.operands]), hv ix (by simp [Op.operands])]
  | extract x k => simp only [evOp]; rw [hv x (by simp [Op.operands])]
  | call c =>
    have : (c.args.toList.map fun x => (val' x).strip) = c.args.toList.map fun x => (val x).strip := List.map_congr_left fun x hx => by rw [hv x (by simp only [Op.operands, Call.operands, Array.mem_append]; right; simpa using hx)]
    simp only [evOp]; rw [this]
    unfold evBuiltin
    split
    · rfl
    · rename_i s x hcal hargs
      simp only [foot, hcal, hargs] at hH
      exact evAppend_congr hH
    · rfl
    · rfl
    · rfl
  | _ => rfl

theorem wp_value {E : Env} {o : Oper} {a : Act} {w w' : World} {v : Value} {next : Act → World → Prop} {Q : Exit → Act → World → Prop} (h : Does E a.eval o w v w') (hn : next (a.put o.dst v) w') : o.wp E.P a w next Q := by
  unfold Oper.wp
  rcases h with h | ⟨h, rfl⟩
  · rw [h]; exact hn
  · rw [h]; exact hn

/-- An operation that is not wanted. -/
theorem local_skip {E : Env} {ops : Array Oper} {o : Oper} {s : St} (hg : guardOf ops s o = some (some false)) : Local E ops o s ⟨.v undef, [], []⟩ := by
  intro s' g a w hr ht _ next Q hn
  have hw := guardOf_some hr ((guard_agree ht).trans hg)
  unfold opWp
  rw [if_neg (by rw [hw]; simp)]
  exact hn g _ w (hr.put (h' := s'.h) g.le_refl hr.rel o.dst (.v undef)) (.refl hr.rel)

theorem evOp_irrel {E : Env} {H : Nat → Ent} {n n' : Nat} {o : Op} {val : Operand → AV} {res : Res} (h : evOp E H n o val = some res) (hn : n ∉ res.U.map (·.1)) : evOp E H n' o val = some res := by
  cases o with
  | alloc t => simp only [evOp] at h; obtain ⟨i, hi, rfl⟩ := Option.map_eq_some_iff.1 h; simp at hn
  | box t x => simp only [evOp] at h; obtain ⟨i, hi, rfl⟩ := Option.map_eq_some_iff.1 h; simp at hn
  | convert s d x =>
    simp only [evOp] at h ⊢
    unfold evConvert at h ⊢
    split at h
    · exact h
    · exact h
    · split at h
      · cases h; simp at hn
      · cases h
    · exact h
    · exact h
    · cases h
  | call c =>
    simp only [evOp] at h ⊢
    unfold evBuiltin at h ⊢
    split at h
    · exact h
    · unfold evAppend at h
      split at h
      · split at h
        · split at h
          · split at h
            · cases h
            · split at h
              · split at h
                · cases h; simp at hn
                · split at h
                  · cases h; simp at hn
                  · cases h
                · split at h
                  · split at h
                    · cases h; simp at hn
                    · cases h
                  · cases h
                · cases h
              · cases h
          · cases h
        · cases h
      · cases h
    · exact h
    · exact h
    · cases h
  | makeFunc fn first captured => cases fn <;> exact h
  | _ => exact h

theorem local_op {E : Env} (hE : E.Ok) (hQ : E.EqOk) {ops : Array Oper} {o : Oper} {s : St} {n : Nat} (hn : hget s.h n = .unborn) {res : Res} (hg : guardOf ops s o = some none ∨ guardOf ops s o = some (some true)) (hc : conds s.val (opnds o.op))
    (h : evOp E (hget s.h) n o.op s.val = some res) (hob : res.ob) {F : List Nat} (hF : ∀ id ∈ foot o.op s.val, id ∈ F) (hUF : ∀ id ∈ res.U.map (·.1), id ∈ F) : Local E ops o s ⟨res.r, res.U, F⟩ := by
  intro s' g a w hr ht hH next Q hnx
  have hv := val_agree ht
  have hw : Region.wanted o (yielded ops a.tmps) = true := by
    rcases hg with hg | hg
    · exact guardOf_none ((guard_agree ht).trans hg) _
    · exact guardOf_some hr ((guard_agree ht).trans hg)
  have h' : evOp E (hget s'.h) n o.op s'.val = some res := by rw [evOp_local hv fun id hid => hH id (hF id hid)]; exact h
  have hc' : conds s'.val (opnds o.op) := (conds_congr fun x hx => hv x (opnds_sub _ x hx)).2 hc
  obtain ⟨m, hm, hm'⟩ : ∃ m, hget s'.h m = .unborn ∧ evOp E (hget s'.h) m o.op s'.val = some res := by
    by_cases hmem : n ∈ res.U.map (·.1)
    · exact ⟨n, (hH n (hUF n hmem)).trans hn, h'⟩
    · exact ⟨s'.h.length, hget_ge _ _ (Nat.le_refl _), evOp_irrel h' hmem⟩
  obtain ⟨v, w', g', h1, h2, h3⟩ := evOp_sound hE hQ hr.rel hm (o := o) hr.val hc' hm' hob
  unfold opWp
  rw [if_pos hw]
  have h4 : Evo g (hget s'.h) w g' (hget (appH s'.h res.U)) w' := by rw [hget_appH]; exact h3
  exact wp_value h1 (hnx g' _ w' (hr.put h4.le h4.rel o.dst h2) h4)

/-- An operation that writes nothing and is wanted only where b holds. -/
theorem local_opG {E : Env} (hE : E.Ok) (hQ : E.EqOk) {ops : Array Oper} {o : Oper} {s : St} {n : Nat} (hn : hget s.h n = .unborn) {res : Res} {b : Bool} (hg : guardOf ops s o = some (some b)) (hc : b = true → conds s.val (opnds o.op))
    (h : evOp E (hget s.h) n o.op s.val = some res) (hU : res.U = []) (hob : b = true → res.ob) {F : List Nat} (hF : ∀ id ∈ foot o.op s.val, id ∈ F) : Local E ops o s ⟨.cnd b res.r, [], F⟩ := by
  intro s' g a w hr ht hH next Q hnx
  cases b with
  | false =>
    have hw := guardOf_some hr ((guard_agree ht).trans hg)
    unfold opWp
    rw [if_neg (by rw [hw]; simp)]
    exact hnx g _ w (hr.put (h' := s'.h) g.le_refl hr.rel o.dst (.cnd (by simp) fun _ => rfl)) (.refl hr.rel)
  | true =>
    have := local_op hE hQ hn (.inr hg) (hc rfl) h (hob rfl) hF (by rw [hU]; simp) s' g a w hr ht hH next Q
    rw [hU] at this
    refine this fun g' a' w' h1 h2 => hnx g' a' w' ?_ h2
    refine ⟨?_, fun k x c e1 e2 => ?_, h1.defers, ?_⟩
    · have := h1.len
      revert this
      simp only [St.after, St.put]
      cases o.dst <;> simp [length_setT]
    · revert e1
      simp only [St.after, St.put]
      cases hd : o.dst with
      | none => intro e1; exact h1.t k x c (by simpa [St.after, St.put, hd] using e1) e2
      | some d =>
        intro e1
        simp only [getElem?_setT] at e1
        have hk := h1.t k
        simp only [St.after, St.put, hd, getElem?_setT] at hk
        split at e1
        · rename_i hc
          cases e1
          exact .cnd (fun _ => hk _ c (by rw [if_pos hc]) e2) (by simp)
        · rename_i hc
          exact hk x c (by rw [if_neg hc]; exact e1) e2
    · have := h1.rel
      revert this
      simp only [St.after, St.put]
      cases o.dst <;> exact id

theorem callOf_agree {ops : Array Oper} {o : Oper} {s s' : St} (h : ∀ x ∈ o.op.operands, s'.val x = s.val x) : callOf s' o.op = callOf s o.op := by
  cases ho : o.op with
  | call c =>
    rw [ho] at h
    have : (c.args.toList.map fun x => (s'.val x).strip) = c.args.toList.map fun x => (s.val x).strip := List.map_congr_left fun x hx => by rw [h x (by simp only [Op.operands, Call.operands, Array.mem_append]; right; simpa using hx)]
    simp only [callOf]
    cases hc : c.callee with
    | value f => simp only []; rw [h f (by simp [Op.operands, Call.operands, hc]), this]
    | _ => rfl
  | _ => rfl

/-- A call that touches no box. -/
theorem local_call {E : Env} {ops : Array Oper} {o : Oper} {s : St} {f : FuncId} {args : List AV} {r : AV} (hg : guardOf ops s o = some none ∨ guardOf ops s o = some (some true)) (hc : conds s.val (opnds o.op))
    (h : callOf s o.op = some (f, args)) (hs : FnSpec E f args [] r []) (hno : NoIds args) : Local E ops o s ⟨r, [], []⟩ := by
  intro s' g a w hr ht hH next Q hnx
  have hv := val_agree ht
  have hw : Region.wanted o (yielded ops a.tmps) = true := by
    rcases hg with hg | hg
    · exact guardOf_none ((guard_agree ht).trans hg) _
    · exact guardOf_some hr ((guard_agree ht).trans hg)
  have hc' : conds s'.val (opnds o.op) := (conds_congr fun x hx => hv x (opnds_sub _ x hx)).2 hc
  obtain ⟨cargs, h1, h2⟩ := run_call hr ((callOf_agree (ops := ops) hv).trans h) hc' hs.1
  unfold opWp Oper.wp
  rw [if_pos hw, h1]
  simp only [Oper.upon]
  refine (call_pure hs hno hr.rel h2).mono ?_
  rintro e w' ⟨v, g', rfl, hv', hev⟩
  exact hnx g' _ w' (hr.put (h' := s'.h) hev.le hev.rel o.dst hv') hev

theorem local_callG {E : Env} {ops : Array Oper} {o : Oper} {s : St} {f : FuncId} {args : List AV} {r : AV} {b : Bool} (hg : guardOf ops s o = some (some b)) (hc : b = true → conds s.val (opnds o.op))
    (h : callOf s o.op = some (f, args)) (hs : b = true → FnSpec E f args [] r [] ∧ NoIds args) : Local E ops o s ⟨.cnd b r, [], []⟩ := by
  intro s' g a w hr ht hH next Q hnx
  cases b with
  | false =>
    have hw := guardOf_some hr ((guard_agree ht).trans hg)
    unfold opWp
    rw [if_neg (by rw [hw]; simp)]
    exact hnx g _ w (hr.put (h' := s'.h) g.le_refl hr.rel o.dst (.cnd (by simp) fun _ => rfl)) (.refl hr.rel)
  | true =>
    obtain ⟨hs1, hno⟩ := hs rfl
    have hv := val_agree ht
    have hw : Region.wanted o (yielded ops a.tmps) = true := guardOf_some hr ((guard_agree ht).trans hg)
    have hc' : conds s'.val (opnds o.op) := (conds_congr fun x hx => hv x (opnds_sub _ x hx)).2 (hc rfl)
    obtain ⟨cargs, h1, h2⟩ := run_call hr ((callOf_agree (ops := ops) hv).trans h) hc' hs1.1
    unfold opWp Oper.wp
    rw [if_pos hw, h1]
    simp only [Oper.upon]
    refine (call_pure hs1 hno hr.rel h2).mono ?_
    rintro e w' ⟨v, g', rfl, hv', hev⟩
    exact hnx g' _ w' (hr.put (h' := s'.h) hev.le hev.rel o.dst (.cnd (fun _ => hv') (by simp))) hev

end Go.Ev
