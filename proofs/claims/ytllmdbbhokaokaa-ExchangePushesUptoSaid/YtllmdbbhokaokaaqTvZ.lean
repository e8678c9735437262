/-
Members of the pool, lent to an operation for a while; boxes that come to the pool; members that are fixed.
-/
import Derived.Test.YtllmdbbhokaokaaqTvN
set_option linter.unusedVariables false
set_option linter.unusedSimpArgs false
namespace Go.Ev
open Go
theorem flatten_at {sz : Nat} : ∀ (elems : List (List AV)) (rest : List AV) (i k : Nat) (cs : List AV) (x : AV), (∀ cs ∈ elems, cs.length = sz) → elems[i]? = some cs → cs[k]? = some x → (elems.flatten ++ rest)[i * sz + k]? = some x
  | [], _, i, k, cs, x, _, h, _ => by simp at h
  | e :: r, rest, 0, k, cs, x, hs, h, hx => by
    simp only [List.getElem?_cons_zero, Option.some.injEq] at h
    subst h
    have hk : k < e.length := (List.getElem?_eq_some_iff.1 hx).1
    rw [List.flatten_cons, List.append_assoc, Nat.zero_mul, Nat.zero_add, List.getElem?_append_left hk]
    exact hx
  | e :: r, rest, i + 1, k, cs, x, hs, h, hx => by
    have he : e.length = sz := hs e (by simp)
    have := flatten_at r rest i k cs x (fun c hc => hs c (List.mem_cons_of_mem _ hc)) (by simpa using h) hx
    rw [List.flatten_cons, List.append_assoc, List.getElem?_append_right (by rw [he, Nat.succ_mul]; omega)]
    rw [← this]
    congr 1
    rw [he, Nat.succ_mul]; omega
theorem Evo.swap {g : Gh} {H H2 : Nat → Ent} {w : World} {g' : Gh} {H' : Nat → Ent} {w' : World} (hl : ∀ k, (H2 k).live → (H k).live) (h : Evo g H2 w g' H' w') : Evo g H w g' H' w' := by
  have hm : ∀ b o, MutOf g H2 b o → MutOf g H b o := fun b o ⟨id, lo, n, h1, h2, h3⟩ => ⟨id, lo, n, hl id h1, h2, h3⟩
  refine ⟨h.le, h.rel, h.fr.mono fun b o _ hx => hm b o hx, fun b o v e => ?_, fun id b lo n hlv e => ?_⟩
  · rcases h.grow b o v e with h1 | h1 | h1
    · exact .inl h1
    · exact .inr (.inl h1)
    · exact .inr (.inr (hm b o h1))
  · rcases h.own id b lo n hlv e with h1 | ⟨a1, a2, a3, h1, h2⟩
    · exact .inl h1
    · exact .inr ⟨a1, a2, a3, hl a1 h1, h2⟩
theorem flat_cells {α : Type} {cel : α → List AV} {sz : Nat} : ∀ (l : List α) (i k : Nat) (a : α) (x : AV), (∀ a ∈ l, (cel a).length = sz) → l[i]? = some a → (cel a)[k]? = some x → (l.flatMap cel)[i * sz + k]? = some x := fun l i k a x hs hi hk => by
  have := flatten_at (sz := sz) (l.map cel) [] i k (cel a) x (fun cs hcs => by obtain ⟨b, hb, rfl⟩ := List.mem_map.1 hcs; exact hs b hb) (by rw [List.getElem?_map, hi]; rfl) hk
  rwa [List.append_nil, ← List.flatMap_def] at this
theorem Evo.freezeB {g : Gh} {H : Nat → Ent} {w : World} (h : WRel g H w) {id : Nat} {cells : List AV} (hid : H id = .gbx cells) :
    ∃ g', Evo g H w g' (upd H id .dead) w ∧ ∀ b lo m, g.ρ id = some (b, lo, m) → ∀ (k : Nat) (x : AV), cells[k]? = some x → ∃ c, g'.I b k = some c ∧ VRel g' x c := by
  have he := h.ent id
  rw [hid] at he
  rcases he with ⟨he, h0⟩ | he
  · refine ⟨g, Evo.noneM h _ fun k => ?_, fun b lo m e => by rw [he] at e; cases e⟩
    by_cases e : k = id
    · subst e; rw [upd_same]; exact .inr (.inl rfl)
    · rw [upd_ne _ _ e]; exact .inl rfl
  · have hw2 : WRel g (upd H id (.box cells)) w := by
      refine ⟨h.imm, fun k => ?_, fun k hk => ?_, fun k k' x x' hne hl hl' a b => ?_⟩
      · by_cases e : k = id
        · subst e; rw [upd_same]; exact he
        · rw [upd_ne _ _ e]; exact h.ent k
      · by_cases e : k = id
        · subst e; rw [upd_same] at hk; cases hk
        · rw [upd_ne _ _ e] at hk; exact h.fresh k hk
      · have hlv : ∀ j, (upd H id (.box cells) j).live → (H j).live := fun j hj => by
          by_cases e : j = id
          · subst e; rw [hid]; trivial
          · rw [upd_ne _ _ e] at hj; exact hj
        exact h.inj k k' x x' hne (hlv k hl) (hlv k' hl') a b
    obtain ⟨g', hev⟩ := Evo.freeze hw2 (upd_same _ _ _)
    have hev1 := Evo.swap (H := H) (fun k hk => by
      by_cases e : k = id
      · subst e; rw [hid]; trivial
      · rw [upd_ne _ _ e] at hk; exact hk) hev
    have hdead : Evo g' (upd (upd H id (.box cells)) id (.ibox cells)) w g' (upd H id .dead) w := Evo.noneM hev.rel _ fun k => by
      by_cases e : k = id
      · subst e; rw [upd_same]; exact .inr (.inl rfl)
      · rw [upd_ne _ _ e, upd_ne _ _ e, upd_ne _ _ e]; exact .inl rfl
    refine ⟨g', hev1.trans hdead, fun b lo m e1 => ?_⟩
    have hib := hev.rel.ent id
    rw [upd_same] at hib
    obtain ⟨b', n', i1, i2⟩ := hib
    have i0 := hev.le.ρ _ _ e1
    rw [i1] at i0
    simp only [Option.some.injEq, Prod.mk.injEq] at i0
    obtain ⟨rfl, rfl, rfl⟩ := i0
    exact i2
theorem Evo.freezeM {g : Gh} {H : Nat → Ent} {w : World} (h : WRel g H w) {α : Type} {cel : α → List AV} {l : List α} {id sz : Nat} (hid : H id = .gbx (l.flatMap cel)) (hs : ∀ a ∈ l, (cel a).length = sz) :
    ∃ g', Evo g H w g' (upd H id .dead) w ∧ ∀ (off n c : Nat) (nn : Bool) (v : Value), off + n ≤ l.length → VRel g (.wsl id (off * sz) n c nn sz) v → VRel g' (.asl sz (((l.drop off).take n).map cel)) v := by
  obtain ⟨g', hev, hI⟩ := Evo.freezeB h hid
  refine ⟨g', hev, fun off n c nn v ho hv => ?_⟩
  cases hv with
  | wsl0 h1 => simpa using VRel.asl0
  | @wsl _ _ _ _ _ b lo m cap _ e1 e2 e2' e3 =>
    have key : ∀ (i : Nat) (cs : List AV) (k : Nat) (x : AV), (((l.drop off).take n).map cel)[i]? = some cs → cs[k]? = some x → ∃ c, g'.I b (off * sz + i * sz + k) = some c ∧ VRel g' x c := fun i cs k x hi hk => by
      simp only [List.getElem?_map, Option.map_eq_some_iff] at hi
      obtain ⟨a, ha, rfl⟩ := hi
      have ha' : l[off + i]? = some a := by
        rw [List.getElem?_take] at ha
        split at ha
        · rw [List.getElem?_drop] at ha; exact ha
        · cases ha
      have := hI b lo m e1 ((off + i) * sz + k) x (flat_cells l (off + i) k a x hs ha' hk)
      rwa [Nat.add_mul] at this
    refine .asl (.sl (o := off * sz) (fun i k => (g'.I b (off * sz + i * sz + k)).getD undef) ?_ (Nat.le_trans e2 e2') (fun i cs hi => ?_) (fun i cs k x hi hk => ?_) (fun i cs k x hi hk => ?_) trivial)
    · simp; omega
    · simp only [List.getElem?_map, Option.map_eq_some_iff] at hi
      obtain ⟨a, ha, rfl⟩ := hi
      exact hs a (List.mem_of_mem_drop (List.mem_of_mem_take (List.mem_of_getElem? ha)))
    · obtain ⟨c, h1, h2⟩ := key i cs k x hi hk
      rw [h1]; rfl
    · obtain ⟨c, h1, h2⟩ := key i cs k x hi hk
      show VRel g' x ((g'.I b (off * sz + i * sz + k)).getD undef)
      rw [h1]; exact h2
def lastU {α : Type} : List (Nat × α) → Nat → Option α
  | [], _ => none
  | (k, e) :: r, i => match lastU r i with
    | some x => some x
    | none => bif Nat.beq k i then some e else none
def dropU {α : Type} (m : Nat) : List (Nat × α) → List (Nat × α)
  | [] => []
  | p :: r => bif Nat.beq p.1 m then dropU m r else p :: dropU m r
theorem app_last : ∀ (U : List (Nat × Ent)) (H : Nat → Ent) (k : Nat), app H U k = match lastU U k with | some e => e | none => H k
  | [], H, k => rfl
  | (i, e) :: r, H, k => by
    rw [app, app_last r (upd H i e) k]
    simp only [lastU]
    cases hl : lastU r k with
    | some x => rfl
    | none =>
      by_cases h : k = i
      · subst h; simp [upd_same, Nat.beq_eq_true_eq]
      · rw [upd_ne _ _ h]
        have : Nat.beq i k = false := by
          cases hb : Nat.beq i k with
          | false => rfl
          | true => exact absurd (Nat.eq_of_beq_eq_true hb).symm h
        rw [this]; rfl
theorem lastU_append {α : Type} : ∀ (U V : List (Nat × α)) (k : Nat), lastU (U ++ V) k = match lastU V k with | some e => some e | none => lastU U k
  | [], V, k => by
    show lastU V k = _
    cases lastU V k <;> rfl
  | (i, e) :: r, V, k => by
    simp only [List.cons_append, lastU, lastU_append r V k]
    cases lastU V k <;> rfl
theorem lastU_drop {α : Type} {m k : Nat} (h : k ≠ m) : ∀ (U : List (Nat × α)), lastU (dropU m U) k = lastU U k
  | [] => rfl
  | (i, e) :: r => by
    simp only [dropU]
    cases hb : Nat.beq i m with
    | true =>
      have := Nat.eq_of_beq_eq_true hb
      subst this
      simp only [cond_true, lastU, lastU_drop h r]
      have : Nat.beq i k = false := by
        cases hb : Nat.beq i k with
        | false => rfl
        | true => exact absurd (Nat.eq_of_beq_eq_true hb).symm h
      rw [this]
      cases lastU r k <;> rfl
    | false => simp only [cond_false, lastU, lastU_drop h r]
section
variable {τ : Nat → Type}
theorem lastU_den (C : Cod τ) : ∀ (U : List (Nat × TEnt τ)) (k : Nat), lastU (denU C U) k = (lastU U k).map (TEnt.den C)
  | [], k => rfl
  | (i, e) :: r, k => by
    have := lastU_den C r k
    simp only [denU] at this
    simp only [denU, List.map_cons, lastU, this]
    cases lastU r k with
    | some x => rfl
    | none => cases Nat.beq i k <;> rfl
theorem tget_tput_same : ∀ (h : List (TEnt τ)) (k : Nat) (e : TEnt τ), tget (tput h k e) k = e
  | [], 0, e => rfl
  | [], k + 1, e => tget_tput_same [] k e
  | x :: r, 0, e => rfl
  | x :: r, k + 1, e => tget_tput_same r k e
def pget {α : Type} (ms : List (Option α)) : Nat → Option α
  | 0 => none
  | j + 1 => match ms[j]? with
    | some m => m
    | none => none
def pset {α : Type} (ms : List (Option α)) : Nat → Option α → List (Option α)
  | 0, _ => ms
  | j + 1, x => ms.set j x
def phas {α : Type} (ms : List (Option α)) (j : Nat) : Bool := (pget ms j).isSome
def pcon {α : Type} (ms : List (Option (List α))) (j : Nat) : List α := (pget ms j).getD []
theorem pget_some {α : Type} {ms : List (Option α)} {j : Nat} {l : α} (h : pget ms j = some l) : ∃ i, j = i + 1 ∧ ms[i]? = some (some l) := by
  cases j with
  | zero => cases h
  | succ i =>
    simp only [pget] at h
    cases hm : ms[i]? with
    | none => rw [hm] at h; cases h
    | some m => rw [hm] at h; simp only [] at h; subst h; exact ⟨i, rfl, hm⟩
def TV.hOk (j : Nat) : TV τ → Prop
  | .hsl _ j' _ _ _ _ => j' = j
  | .hptr _ j' _ => j' = j
  | _ => True
def lendV (m : Nat) : TV τ → TV τ
  | .hsl t _ o n c nn => .wsl t m o n c nn
  | .hptr _ _ p => .ptr m p
  | x => x
def back1 (t j m : Nat) : TV τ → TV τ
  | .wsl t' id o n c nn => bif Nat.beq id m then .hsl t' j o n c nn else .wsl t' id o n c nn
  | .msl t' id n => bif Nat.beq id m then .hsl t' j 0 n n false else .msl t' id n
  | .ptr id p => bif Nat.beq id m then .hptr t j p else .ptr id p
  | x => x
def backV (t j m : Nat) : TV τ → TV τ
  | .tup l => .tup (l.map (back1 t j m))
  | x => back1 t j m x
theorem lendV_rel {C : Cod τ} {g : Gh} {m j : Nat} (hle : g.up (lendG g m j)) {x : TV τ} (hx : x.hOk (j + 1)) {v : Value} (h : VRel g (x.den C) v) : VRel (lendG g m j) ((lendV m x).den C) v := by
  cases x with
  | hsl t j' o n c nn =>
    have e : j' = j + 1 := hx
    subst e
    exact lend_wsl h
  | hptr t j' p =>
    have e : j' = j + 1 := hx
    subst e
    simp only [lendV, TV.den, hptrAV, ptrAV] at h ⊢
    cases hb : inbs p with
    | true => rw [hb] at h; exact lend_ptr h
    | false => rw [hb] at h; exact absurd h not_bot
  | _ => exact h.monoU hle
theorem lendV_nil {C : Cod τ} {g : Gh} {m : Nat} {x : TV τ} (hx : x.hOk 0) {v : Value} (h : VRel g (x.den C) v) : VRel g ((lendV m x).den C) v := by
  cases x with
  | hsl t j' o n c nn =>
    have e : j' = 0 := hx
    subst e
    simp only [lendV, TV.den] at h ⊢
    cases h with
    | hsl0 h1 => exact .wsl0 h1
  | hptr t j' p =>
    have e : j' = 0 := hx
    subst e
    simp only [lendV, TV.den, hptrAV, ptrAV] at h ⊢
    cases hb : inbs p with
    | true => rw [hb] at h; simp only [cond_true] at h; cases h
    | false => rw [hb] at h; exact absurd h not_bot
  | _ => exact h
theorem back1_rel {C : Cod τ} {g : Gh} {m j t : Nat} (hle : g.up (keepG g m j)) {x : TV τ} {v : Value} (h : VRel g (x.den C) v) : VRel (keepG g m j) ((back1 t (j + 1) m x).den C) v := by
  cases x with
  | wsl t' id o n c nn =>
    simp only [back1]
    cases hb : Nat.beq id m with
    | true =>
      have := Nat.eq_of_beq_eq_true hb
      subst this
      exact keep_wsl h
    | false => exact h.monoU hle
  | msl t' id n =>
    simp only [back1]
    cases hb : Nat.beq id m with
    | true =>
      have := Nat.eq_of_beq_eq_true hb
      subst this
      have := keep_bsl (j := j) h
      simpa [TV.den] using this
    | false => exact h.monoU hle
  | ptr id p =>
    simp only [back1]
    cases hb : Nat.beq id m with
    | true =>
      have := Nat.eq_of_beq_eq_true hb
      subst this
      simp only [cond_true, TV.den, hptrAV, ptrAV] at h ⊢
      cases hb : inbs p with
      | true => rw [hb] at h; exact keep_ptr h
      | false => rw [hb] at h; exact absurd h not_bot
    | false => exact h.monoU hle
  | _ => exact h.monoU hle
theorem backV_rel {C : Cod τ} {g : Gh} {m j t : Nat} (hle : g.up (keepG g m j)) {x : TV τ} {v : Value} (h : VRel g (x.den C) v) : VRel (keepG g m j) ((backV t (j + 1) m x).den C) v := by
  cases x with
  | tup l =>
    simp only [backV, TV.den, denL_eq] at h ⊢
    cases h with
    | tup e h' =>
      refine .tup (by simpa using e) fun k y c hy hc => ?_
      simp only [List.getElem?_map, Option.map_eq_some_iff] at hy
      obtain ⟨_, ⟨z, hz, rfl⟩, rfl⟩ := hy
      exact back1_rel hle (h' k (z.den C) c (by rw [List.getElem?_map, hz]; rfl) hc)
  | _ => exact back1_rel (t := t) (x := _) hle h
def lentH (h : List (TEnt τ)) (p m t : Nat) (ms : List (Option (List (τ t)))) (l : List (τ t)) : List (TEnt τ) := tput (tput h p (.pool t ms)) m (.gbx t l)
theorem lentH_m (h : List (TEnt τ)) (p m t : Nat) (ms : List (Option (List (τ t)))) (l : List (τ t)) : tget (lentH h p m t ms l) m = .gbx t l := tget_tput_same _ _ _
theorem lentH_p (h : List (TEnt τ)) {p m : Nat} (t : Nat) (ms : List (Option (List (τ t)))) (l : List (τ t)) (hne : p ≠ m) : tget (lentH h p m t ms l) p = .pool t ms := by
  unfold lentH
  rw [tget_tput_ne _ _ _ _ hne, tget_tput_same]
theorem lentH_k (h : List (TEnt τ)) {p m k : Nat} (t : Nat) (ms : List (Option (List (τ t)))) (l : List (τ t)) (h1 : k ≠ p) (h2 : k ≠ m) : tget (lentH h p m t ms l) k = tget h k := by
  unfold lentH
  rw [tget_tput_ne _ _ _ _ h2, tget_tput_ne _ _ _ _ h1]
theorem poolAV_set (C : Cod τ) (t : Nat) (ms : List (Option (List (τ t)))) (j : Nat) (x : Option (List (τ t))) : poolAV C t (ms.set j x) = (poolAV C t ms).set j (x.map fun l => l.flatMap (C.cel t)) := by simp [poolAV, List.map_set]
theorem poolAV_get {C : Cod τ} {t : Nat} {ms : List (Option (List (τ t)))} {j : Nat} {l : List (τ t)} (h : ms[j]? = some (some l)) : (poolAV C t ms)[j]? = some (some (l.flatMap (C.cel t))) := by simp [poolAV, h]
theorem poolAV_len (C : Cod τ) (t : Nat) (ms : List (Option (List (τ t)))) : (poolAV C t ms).length = ms.length := by simp [poolAV]
theorem fin_upd {H : Nat → Ent} (h : ∃ k, ∀ m, k ≤ m → H m = .unborn) (i : Nat) (e : Ent) : ∃ k, ∀ m, k ≤ m → upd H i e m = .unborn := by
  obtain ⟨k, hk⟩ := h
  exact ⟨k + i + 1, fun m hm => by rw [upd_ne _ _ (by omega)]; exact hk m (by omega)⟩
theorem tne {h : List (TEnt τ)} {p m t : Nat} {ms : List (Option (List (τ t)))} (hp : tget h p = .pool t ms) (hm : tget h m = .unborn) : p ≠ m := fun e => by subst e; rw [hp] at hm; cases hm
theorem core_lend {E : Env} {C : Cod τ} {o : Oper} {val : Operand → TV τ} {h : List (TEnt τ)} {t p m j : Nat} {ms : List (Option (List (τ t)))} (hp : tget h p = .pool t ms) (hm : tget h m = .unborn) {l : List (τ t)} (hj : ms[j]? = some (some l))
    (hv : ∀ x ∈ opnds o.op, (val x).hOk (j + 1)) {r : TV τ} {U : List (Nat × TEnt τ)} {F : List Nat} (hc : CoreOk E C true o (fun x => lendV m (val x)) (tget (lentH h p m t (ms.set j none) l)) r U F) (hpU : lastU U p = none)
    {l' : List (τ t)} (hl' : lastU U m = some (.gbx t l') ∨ (lastU U m = none ∧ l' = l)) :
    CoreOk E C false o val (tget h) (backV t (j + 1) m r) (dropU m U ++ [(p, .pool t (ms.set j (some l'))), (m, .dead)]) (p :: m :: F) := by
  intro H g a w hW hrel hH hfin next Q hn
  have hne := tne hp hm
  have hHp : H p = .pool (poolAV C t ms) := by rw [hH p (by simp), hp]; rfl
  have hHm : H m = .unborn := by rw [hH m (by simp), hm]; rfl
  have hjA := poolAV_get (C := C) hj
  have ev1 := EvoP.lend hW hHp hjA hHm
  have hs : (poolAV C t ms).set j none = poolAV C t (ms.set j none) := (poolAV_set C t ms j none).symm
  rw [hs] at ev1
  have hle := ev1.le
  refine hc _ _ a w ev1.rel (fun x hx => lendV_rel hle (hv x hx) (hrel x hx)) (fun id hid => ?_) (fin_upd (fin_upd hfin _ _) _ _) next Q fun v g' w' hv' hev hα => ?_
  · by_cases h1 : id = m
    · subst h1; rw [upd_same, lentH_m]; rfl
    · by_cases h2 : id = p
      · subst h2; rw [upd_ne _ _ h1, upd_same, lentH_p _ _ _ _ hne]; rfl
      · rw [upd_ne _ _ h1, upd_ne _ _ h2, lentH_k _ _ _ _ h2 h1]; exact hH id (by simp [hid])
  · have hαg : g'.α = g.α := hα rfl
    have h2p : app (upd (upd H p (.pool (poolAV C t (ms.set j none)))) m (.gbx (l.flatMap (C.cel t)))) (denU C U) p = .pool (poolAV C t (ms.set j none)) := by
      rw [app_last, lastU_den, hpU]
      show upd (upd H p _) m _ p = _
      rw [upd_ne _ _ hne, upd_same]
    have h2m : app (upd (upd H p (.pool (poolAV C t (ms.set j none)))) m (.gbx (l.flatMap (C.cel t)))) (denU C U) m = .gbx (l'.flatMap (C.cel t)) := by
      rw [app_last, lastU_den]
      rcases hl' with e | ⟨e, rfl⟩
      · rw [e]; rfl
      · rw [e]
        show upd (upd H p _) m _ m = _
        rw [upd_same]
    have hjlt : j < ms.length := (List.getElem?_eq_some_iff.1 hj).1
    have ev3 := EvoP.keepM (j := j) hev.rel h2p h2m (.inl ⟨by rw [← hs, List.getElem?_set_self (by rw [poolAV_len]; exact hjlt)], fun x hx => by
      rw [hαg] at hx
      refine hev.le.ρ _ _ ?_
      have : (lendG g m j).ρ m = α2ρ (g.α j) := by simp [lendG]
      rw [this, hx]; rfl⟩)
    rw [if_pos (by rw [poolAV_len]; simpa using hjlt)] at ev3
    have hset : (poolAV C t (ms.set j none)).set j (some (l'.flatMap (C.cel t))) = poolAV C t (ms.set j (some l')) := by
      rw [poolAV_set, poolAV_set]; simp
    rw [hset] at ev3
    have hfinal : upd (upd (app (upd (upd H p (.pool (poolAV C t (ms.set j none)))) m (.gbx (l.flatMap (C.cel t)))) (denU C U)) m .dead) p (.pool (poolAV C t (ms.set j (some l')))) = app H (denU C (dropU m U ++ [(p, .pool t (ms.set j (some l'))), (m, .dead)])) := by
      funext k
      rw [app_last (denU C (dropU m U ++ _)), lastU_den, lastU_append]
      by_cases h1 : k = p
      · subst h1
        rw [upd_same]
        simp only [lastU, Nat.beq_refl, cond_true]
        have : Nat.beq m k = false := by
          cases hb : Nat.beq m k with
          | false => rfl
          | true => exact absurd (Nat.eq_of_beq_eq_true hb).symm hne
        rw [this]; rfl
      · rw [upd_ne _ _ h1]
        by_cases h2 : k = m
        · subst h2
          rw [upd_same]
          simp only [lastU, Nat.beq_refl, cond_true]; rfl
        · rw [upd_ne _ _ h2, app_last, lastU_den]
          have b1 : Nat.beq p k = false := by
            cases hb : Nat.beq p k with
            | false => rfl
            | true => exact absurd (Nat.eq_of_beq_eq_true hb).symm h1
          have b2 : Nat.beq m k = false := by
            cases hb : Nat.beq m k with
            | false => rfl
            | true => exact absurd (Nat.eq_of_beq_eq_true hb).symm h2
          simp only [lastU, b1, b2, cond_false, lastU_drop h2]
          rw [upd_ne _ _ h2, upd_ne _ _ h1]
    rw [hfinal] at ev3
    exact hn v _ w' (backV_rel ev3.le hv') ((ev1.trans hev).trans ev3) (fun e => by cases e)
theorem core_gone {E : Env} {C : Cod τ} {o : Oper} {val : Operand → TV τ} {h : List (TEnt τ)} {t p m j : Nat} {ms : List (Option (List (τ t)))} (hp : tget h p = .pool t ms) (hm : tget h m = .unborn) {l : List (τ t)} (hj : ms[j]? = some (some l))
    (hv : ∀ x ∈ opnds o.op, (val x).hOk (j + 1)) {fl : Bool} {r : TV τ} {U : List (Nat × TEnt τ)} {F : List Nat} (hc : CoreOk E C fl o (fun x => lendV m (val x)) (tget (lentH h p m t (ms.set j none) l)) r U F) (hpU : lastU U p = none)
    (hl' : lastU U m = some .dead) : CoreOk E C false o val (tget h) r (dropU m U ++ [(p, .pool t (ms.set j none)), (m, .dead)]) (p :: m :: F) := by
  intro H g a w hW hrel hH hfin next Q hn
  have hne := tne hp hm
  have hHp : H p = .pool (poolAV C t ms) := by rw [hH p (by simp), hp]; rfl
  have hHm : H m = .unborn := by rw [hH m (by simp), hm]; rfl
  have ev1 := EvoP.lend hW hHp (poolAV_get (C := C) hj) hHm
  have hs : (poolAV C t ms).set j none = poolAV C t (ms.set j none) := (poolAV_set C t ms j none).symm
  rw [hs] at ev1
  have hle := ev1.le
  refine hc _ _ a w ev1.rel (fun x hx => lendV_rel hle (hv x hx) (hrel x hx)) (fun id hid => ?_) (fin_upd (fin_upd hfin _ _) _ _) next Q fun v g' w' hv' hev hα => ?_
  · by_cases h1 : id = m
    · subst h1; rw [upd_same, lentH_m]; rfl
    · by_cases h2 : id = p
      · subst h2; rw [upd_ne _ _ h1, upd_same, lentH_p _ _ _ _ hne]; rfl
      · rw [upd_ne _ _ h1, upd_ne _ _ h2, lentH_k _ _ _ _ h2 h1]; exact hH id (by simp [hid])
  · have hfinal : app (upd (upd H p (.pool (poolAV C t (ms.set j none)))) m (.gbx (l.flatMap (C.cel t)))) (denU C U) = app H (denU C (dropU m U ++ [(p, .pool t (ms.set j none)), (m, .dead)])) := by
      funext k
      rw [app_last (denU C (dropU m U ++ _)), app_last, lastU_den, lastU_den, lastU_append]
      by_cases h1 : k = p
      · subst h1
        have : Nat.beq m k = false := by
          cases hb : Nat.beq m k with
          | false => rfl
          | true => exact absurd (Nat.eq_of_beq_eq_true hb).symm hne
        simp only [lastU, Nat.beq_refl, cond_true, this, cond_false, hpU]
        show upd (upd H k _) m _ k = _
        rw [upd_ne _ _ hne, upd_same]; rfl
      · by_cases h2 : k = m
        · subst h2
          simp only [lastU, Nat.beq_refl, cond_true, hl']; rfl
        · have b1 : Nat.beq p k = false := by
            cases hb : Nat.beq p k with
            | false => rfl
            | true => exact absurd (Nat.eq_of_beq_eq_true hb).symm h1
          have b2 : Nat.beq m k = false := by
            cases hb : Nat.beq m k with
            | false => rfl
            | true => exact absurd (Nat.eq_of_beq_eq_true hb).symm h2
          simp only [lastU, b1, b2, cond_false, lastU_drop h2]
          rw [upd_ne _ _ h2, upd_ne _ _ h1]
    rw [hfinal] at hev
    exact hn v _ w' hv' (ev1.trans hev) (fun e => by cases e)
theorem core_gone0 {E : Env} {C : Cod τ} {o : Oper} {val : Operand → TV τ} {h : List (TEnt τ)} {t p m : Nat} {ms : List (Option (List (τ t)))} (hp : tget h p = .pool t ms) (hm : tget h m = .unborn)
    (hv : ∀ x ∈ opnds o.op, (val x).hOk 0) {fl : Bool} {r : TV τ} {U : List (Nat × TEnt τ)} {F : List Nat} (hc : CoreOk E C fl o (fun x => lendV m (val x)) (tget (lentH h p m t ms [])) r U F) (hpU : lastU U p = none)
    (hl' : lastU U m = some .dead) : CoreOk E C false o val (tget h) r (dropU m U ++ [(p, .pool t ms), (m, .dead)]) (p :: m :: F) := by
  intro H g a w hW hrel hH hfin next Q hn
  have hne := tne hp hm
  have hHp : H p = .pool (poolAV C t ms) := by rw [hH p (by simp), hp]; rfl
  have hHm : H m = .unborn := by rw [hH m (by simp), hm]; rfl
  have ev0 : Evo g H w g (upd H m (.gbx [])) w := Evo.noneM hW.base _ fun k => by
    by_cases e : k = m
    · subst e; rw [upd_same]; exact .inr (.inr ⟨rfl, hW.base.fresh k hHm⟩)
    · rw [upd_ne _ _ e]; exact .inl rfl
  have ev1 := ev0.toP hW.pool fun q ms' => pool_upd (fun ms e => by rw [hHm] at e; cases e) (fun ms e => by cases e) q ms'
  refine hc _ _ a w ev1.rel (fun x hx => lendV_nil (hv x hx) (hrel x hx)) (fun id hid => ?_) (fin_upd hfin _ _) next Q fun v g' w' hv' hev hα => ?_
  · by_cases h1 : id = m
    · subst h1; rw [upd_same, lentH_m]; rfl
    · rw [upd_ne _ _ h1]
      by_cases h2 : id = p
      · subst h2; rw [lentH_p _ _ _ _ hne]; exact hHp
      · rw [lentH_k _ _ _ _ h2 h1]; exact hH id (by simp [hid])
  · have hfinal : app (upd H m (.gbx [])) (denU C U) = app H (denU C (dropU m U ++ [(p, .pool t ms), (m, .dead)])) := by
      funext k
      rw [app_last (denU C (dropU m U ++ _)), app_last, lastU_den, lastU_den, lastU_append]
      by_cases h1 : k = p
      · subst h1
        have : Nat.beq m k = false := by
          cases hb : Nat.beq m k with
          | false => rfl
          | true => exact absurd (Nat.eq_of_beq_eq_true hb).symm hne
        simp only [lastU, Nat.beq_refl, cond_true, this, cond_false, hpU]
        show upd H m _ k = _
        rw [upd_ne _ _ hne]; exact hHp
      · by_cases h2 : k = m
        · subst h2
          simp only [lastU, Nat.beq_refl, cond_true, hl']; rfl
        · have b1 : Nat.beq p k = false := by
            cases hb : Nat.beq p k with
            | false => rfl
            | true => exact absurd (Nat.eq_of_beq_eq_true hb).symm h1
          have b2 : Nat.beq m k = false := by
            cases hb : Nat.beq m k with
            | false => rfl
            | true => exact absurd (Nat.eq_of_beq_eq_true hb).symm h2
          simp only [lastU, b1, b2, cond_false, lastU_drop h2]
          rw [upd_ne _ _ h2]
    rw [hfinal] at hev
    exact hn v _ w' hv' (ev1.trans hev) (fun e => by cases e)
theorem core_adopt {E : Env} {C : Cod τ} {o : Oper} {val : Operand → TV τ} {h : List (TEnt τ)} {t p n : Nat} {ms : List (Option (List (τ t)))} {fl : Bool} {r : TV τ} {U : List (Nat × TEnt τ)} {F : List Nat} (hc : CoreOk E C fl o val (tget h) r U F)
    (hp : lastU U p = some (.pool t ms) ∨ (lastU U p = none ∧ tget h p = .pool t ms)) {l : List (τ t)} (hl : lastU U n = some (.gbx t l)) :
    CoreOk E C false o val (tget h) (backV t (ms.length + 1) n r) (dropU n U ++ [(p, .pool t (ms ++ [some l])), (n, .dead)]) (p :: F) := by
  intro H g a w hW hrel hH hfin next Q hn
  have hne : p ≠ n := fun e => by
    subst e
    rcases hp with e | ⟨e, _⟩
    · rw [hl] at e; cases e
    · rw [hl] at e; cases e
  refine hc H g a w hW hrel (fun id hid => hH id (by simp [hid])) hfin next Q fun v g' w' hv' hev hα => ?_
  have h2p : app H (denU C U) p = .pool (poolAV C t ms) := by
    rw [app_last, lastU_den]
    rcases hp with e | ⟨e, e'⟩
    · rw [e]; rfl
    · rw [e]
      show H p = _
      rw [hH p (by simp), e']; rfl
  have h2n : app H (denU C U) n = .gbx (l.flatMap (C.cel t)) := by
    rw [app_last, lastU_den, hl]; rfl
  have ev3 := EvoP.keepM (j := ms.length) hev.rel h2p h2n (.inr (poolAV_len C t ms).symm)
  rw [if_neg (by rw [poolAV_len]; omega)] at ev3
  have hset : poolAV C t ms ++ [some (l.flatMap (C.cel t))] = poolAV C t (ms ++ [some l]) := by simp [poolAV]
  rw [hset] at ev3
  have hfinal : upd (upd (app H (denU C U)) n .dead) p (.pool (poolAV C t (ms ++ [some l]))) = app H (denU C (dropU n U ++ [(p, .pool t (ms ++ [some l])), (n, .dead)])) := by
    funext k
    rw [app_last (denU C (dropU n U ++ _)), lastU_den, lastU_append]
    by_cases h1 : k = p
    · subst h1
      rw [upd_same]
      have : Nat.beq n k = false := by
        cases hb : Nat.beq n k with
        | false => rfl
        | true => exact absurd (Nat.eq_of_beq_eq_true hb).symm hne
      simp only [lastU, Nat.beq_refl, cond_true, this, cond_false]; rfl
    · rw [upd_ne _ _ h1]
      by_cases h2 : k = n
      · subst h2
        rw [upd_same]
        simp only [lastU, Nat.beq_refl, cond_true]; rfl
      · rw [upd_ne _ _ h2, app_last, lastU_den]
        have b1 : Nat.beq p k = false := by
          cases hb : Nat.beq p k with
          | false => rfl
          | true => exact absurd (Nat.eq_of_beq_eq_true hb).symm h1
        have b2 : Nat.beq n k = false := by
          cases hb : Nat.beq n k with
          | false => rfl
          | true => exact absurd (Nat.eq_of_beq_eq_true hb).symm h2
        simp only [lastU, b1, b2, cond_false, lastU_drop h2]
  rw [hfinal] at ev3
  exact hn v _ w' (backV_rel ev3.le hv') (hev.trans ev3) (fun e => by cases e)
def frzV {t : Nat} (l : List (τ t)) : TV τ → TV τ
  | .hsl t' _ o n _ _ => bif Nat.beq t' t then .sl t ((l.drop o).take n) .any else .junk
  | x => x
def TV.fOk (t j len : Nat) : TV τ → Prop
  | .hsl _ j' o n _ _ => j' = j ∧ o + n ≤ len
  | .hptr _ _ _ => False
  | _ => True
theorem core_frz {E : Env} {C : Cod τ} (hC : C.Ok) {o : Oper} {val : Operand → TV τ} {h : List (TEnt τ)} {t p m j : Nat} {ms : List (Option (List (τ t)))} (hp : tget h p = .pool t ms) (hm : tget h m = .unborn) {l : List (τ t)} (hj : ms[j]? = some (some l))
    (hv : ∀ x ∈ opnds o.op, (val x).fOk t (j + 1) l.length) {fl : Bool} {r : TV τ} {U : List (Nat × TEnt τ)} {F : List Nat} (hc : CoreOk E C fl o (fun x => frzV l (val x)) (tget (tput (tput h p (.pool t (ms.set j none))) m .dead)) r U F) :
    CoreOk E C false o val (tget h) r ((p, .pool t (ms.set j none)) :: (m, .dead) :: U) (p :: m :: F) := by
  intro H g a w hW hrel hH hfin next Q hn
  have hne := tne hp hm
  have hHp : H p = .pool (poolAV C t ms) := by rw [hH p (by simp), hp]; rfl
  have hHm : H m = .unborn := by rw [hH m (by simp), hm]; rfl
  have ev1 := EvoP.lend hW hHp (poolAV_get (C := C) hj) hHm
  have hs : (poolAV C t ms).set j none = poolAV C t (ms.set j none) := (poolAV_set C t ms j none).symm
  rw [hs] at ev1
  have hle := ev1.le
  generalize hH1 : upd (upd H p (.pool (poolAV C t (ms.set j none)))) m (.gbx (l.flatMap (C.cel t))) = H1 at ev1
  have hm1 : H1 m = .gbx (l.flatMap (C.cel t)) := by rw [← hH1, upd_same]
  obtain ⟨g2, ev2, hval⟩ : ∃ g2, Evo (lendG g m j) H1 w g2 (upd H1 m .dead) w ∧ ∀ (off n c : Nat) (nn : Bool) (v : Value), off + n ≤ l.length → VRel (lendG g m j) (.wsl m (off * C.sz t) n c nn (C.sz t)) v → VRel g2 (.asl (C.sz t) (((l.drop off).take n).map (C.cel t))) v := by
    exact Evo.freezeM ev1.rel.base hm1 (fun x hx => hC.len t x)
  have ev3 : EvoP (lendG g m j) H1 w g2 (upd H1 m .dead) w := ev2.toP ev1.rel.pool fun q ms' => pool_upd (fun ms e => by rw [hm1] at e; cases e) (fun ms e => by cases e) q ms'
  refine hc _ g2 a w ev3.rel (fun x hx => ?_) (fun id hid => ?_) ?_ next Q fun v g' w' hv' hev hα => ?_
  · have h1 := hv x hx
    have h2 := hrel x hx
    have hup : g.up g2 := ev1.le.trans ev3.le
    show VRel g2 ((frzV l (val x)).den C) _
    generalize val x = y at h1 h2 ⊢
    cases y with
    | hsl t' j' off n c nn =>
      obtain ⟨rfl, h3⟩ := h1
      simp only [frzV]
      cases hb : Nat.beq t' t with
      | false => exact .junk _
      | true =>
        have := Nat.eq_of_beq_eq_true hb
        subst this
        exact hval off n c nn _ h3 (lend_wsl h2)
    | hptr t' j' pp => exact h1.elim
    | _ => exact h2.monoU hup
  · by_cases h1 : id = m
    · subst h1; rw [upd_same, tget_tput_same]; rfl
    · rw [upd_ne _ _ h1, tget_tput_ne _ _ _ _ h1, ← hH1, upd_ne _ _ h1]
      by_cases h2 : id = p
      · subst h2; rw [upd_same, tget_tput_same]; rfl
      · rw [upd_ne _ _ h2, tget_tput_ne _ _ _ _ h2]; exact hH id (by simp [hid])
  · rw [← hH1]; exact fin_upd (fin_upd (fin_upd hfin _ _) _ _) _ _
  · refine hn v g' w' hv' ?_ (fun e => by cases e)
    have hfinal : app (upd H1 m .dead) (denU C U) = app H (denU C ((p, .pool t (ms.set j none)) :: (m, .dead) :: U)) := by
      show _ = app (upd (upd H p _) m _) (denU C U)
      congr 1
      funext k
      rw [← hH1]
      by_cases h1 : k = m
      · subst h1; rw [upd_same, upd_same]; rfl
      · rw [upd_ne _ _ h1, upd_ne _ _ h1, upd_ne _ _ h1]; rfl
    rw [← hfinal]
    exact (ev1.trans ev3).trans hev
end
end Go.Ev
