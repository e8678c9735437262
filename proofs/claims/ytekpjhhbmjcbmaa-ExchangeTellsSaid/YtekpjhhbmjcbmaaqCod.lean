/-
The types of this seat's program, as the evaluator asks them, and how their data are told. Written by wip/tools/gen2.py.
-/
import Derived.Test.YtekpjhhbmjcbmaaqCoda
import Derived.KernelRfl
set_option linter.unusedVariables false
set_option linter.unusedSimpArgs false
set_option maxHeartbeats 8000000
set_option maxRecDepth 100000
namespace Go.Proofs.Ytekpjhhbmjcbmaa
open Go Go.Ev
theorem decx40 {x : TV τ} {a : GStamp} (h : dec40 x = some a) : ∃ x0 x1, x = .agg [x0, x1] ∧ dec2 x0 = some a.Time ∧ dec3 x1 = some a.Site := by
  unfold dec40 at h
  split at h
  · rename_i x0 x1
    split at h
    · rename_i a0 h0
      split at h
      · rename_i a1 h1
        cases h
        exact ⟨_, _, rfl, h0, h1⟩
      · cases h
    · cases h
  · cases h
theorem law40 : CodAt C 40 := ⟨fun x => by show ((enc2 x.Time).cells C ++ ((enc3 x.Site).cells C ++ [])) = cel40 x; unfold cel40; exact congr (congrArg (· ++ ·) (law2.cel x.Time)) (congr (congrArg (· ++ ·) (law3.cel x.Site)) (rfl)), fun x => by show ((cel2 x.Time ++ (cel3 x.Site ++ []))).length = 2; rw [List.length_append, List.length_append]; have e0 : (cel2 x.Time).length = 1 := law2.len x.Time; have e1 : (cel3 x.Site).length = 1 := law3.len x.Site; simp only [e0, e1, List.length_nil], fun x a h => by obtain ⟨x0, x1, rfl, h0, h1⟩ := decx40 (show dec40 x = some a from h); exact CW.append (law2.dec _ _ h0) (CW.append (law3.dec _ _ h1) (CW.refl [])), fun x => by show (((enc2 x.Time).ok && ((enc3 x.Site).ok && true))) = true; simp only [show (enc2 x.Time).ok = true from law2.ok _, show (enc3 x.Site).ok = true from law3.ok _, Bool.and_self], fun x a h => by obtain ⟨x0, x1, rfl, h0, h1⟩ := decx40 (show dec40 x = some a from h); show ((x0.ok && (x1.ok && true))) = true; simp only [law2.decok _ _ h0, law3.decok _ _ h1, Bool.and_self], fun x a h => by obtain ⟨x0, x1, rfl, h0, h1⟩ := decx40 (show dec40 x = some a from h); rfl, fun x => by show ((cel2 x.Time ++ (cel3 x.Site ++ []))).all AV.one = true; simp only [List.all_append, List.all_nil, show (cel2 x.Time).all AV.one = true from law2.one _, show (cel3 x.Site).all AV.one = true from law3.one _, Bool.and_self], fun x => noids_app (law2.noid x.Time) (noids_app (law3.noid x.Site) (trivial)), fun ks h a b => by have := eqCells_append (law2.kd _ rfl a.Time b.Time) (eqCells_append (law3.kd _ rfl a.Site b.Site) ((show eqCells [] [] [] = some true from rfl))); cases h; exact this, (fun l s h => nomatch h), (fun s l h => nomatch h)⟩
theorem decx42 {x : TV τ} {a : GOp} (h : dec42 x = some a) : ∃ x0 x1 x2 x3 x4 x5 x6, x = .agg [x0, x1, x2, x3, x4, x5, x6] ∧ dec41 x0 = some a.Stamp ∧ dec3 x1 = some a.Kind ∧ dec2 x2 = some a.Node ∧ dec2 x3 = some a.Parent ∧ dec9 x4 = some a.Name ∧ dec9 x5 = some a.Key ∧ dec9 x6 = some a.Value := by
  unfold dec42 at h
  split at h
  · rename_i x0 x1 x2 x3 x4 x5 x6
    split at h
    · rename_i a0 h0
      split at h
      · rename_i a1 h1
        split at h
        · rename_i a2 h2
          split at h
          · rename_i a3 h3
            split at h
            · rename_i a4 h4
              split at h
              · rename_i a5 h5
                split at h
                · rename_i a6 h6
                  cases h
                  exact ⟨_, _, _, _, _, _, _, rfl, h0, h1, h2, h3, h4, h5, h6⟩
                · cases h
              · cases h
            · cases h
          · cases h
        · cases h
      · cases h
    · cases h
  · cases h
theorem law42 : CodAt C 42 := ⟨fun x => by show ((enc41 x.Stamp).cells C ++ ((enc3 x.Kind).cells C ++ ((enc2 x.Node).cells C ++ ((enc2 x.Parent).cells C ++ ((enc9 x.Name).cells C ++ ((enc9 x.Key).cells C ++ ((enc9 x.Value).cells C ++ []))))))) = cel42 x; unfold cel42; exact congr (congrArg (· ++ ·) (law41.cel x.Stamp)) (congr (congrArg (· ++ ·) (law3.cel x.Kind)) (congr (congrArg (· ++ ·) (law2.cel x.Node)) (congr (congrArg (· ++ ·) (law2.cel x.Parent)) (congr (congrArg (· ++ ·) (law9.cel x.Name)) (congr (congrArg (· ++ ·) (law9.cel x.Key)) (congr (congrArg (· ++ ·) (law9.cel x.Value)) (rfl))))))), fun x => by show ((cel41 x.Stamp ++ (cel3 x.Kind ++ (cel2 x.Node ++ (cel2 x.Parent ++ (cel9 x.Name ++ (cel9 x.Key ++ (cel9 x.Value ++ [])))))))).length = 8; rw [List.length_append, List.length_append, List.length_append, List.length_append, List.length_append, List.length_append, List.length_append]; have e0 : (cel41 x.Stamp).length = 2 := law41.len x.Stamp; have e1 : (cel3 x.Kind).length = 1 := law3.len x.Kind; have e2 : (cel2 x.Node).length = 1 := law2.len x.Node; have e3 : (cel2 x.Parent).length = 1 := law2.len x.Parent; have e4 : (cel9 x.Name).length = 1 := law9.len x.Name; have e5 : (cel9 x.Key).length = 1 := law9.len x.Key; have e6 : (cel9 x.Value).length = 1 := law9.len x.Value; simp only [e0, e1, e2, e3, e4, e5, e6, List.length_nil], fun x a h => by obtain ⟨x0, x1, x2, x3, x4, x5, x6, rfl, h0, h1, h2, h3, h4, h5, h6⟩ := decx42 (show dec42 x = some a from h); exact CW.append (law41.dec _ _ h0) (CW.append (law3.dec _ _ h1) (CW.append (law2.dec _ _ h2) (CW.append (law2.dec _ _ h3) (CW.append (law9.dec _ _ h4) (CW.append (law9.dec _ _ h5) (CW.append (law9.dec _ _ h6) (CW.refl []))))))), fun x => by show (((enc41 x.Stamp).ok && ((enc3 x.Kind).ok && ((enc2 x.Node).ok && ((enc2 x.Parent).ok && ((enc9 x.Name).ok && ((enc9 x.Key).ok && ((enc9 x.Value).ok && true)))))))) = true; simp only [show (enc41 x.Stamp).ok = true from law41.ok _, show (enc3 x.Kind).ok = true from law3.ok _, show (enc2 x.Node).ok = true from law2.ok _, show (enc2 x.Parent).ok = true from law2.ok _, show (enc9 x.Name).ok = true from law9.ok _, show (enc9 x.Key).ok = true from law9.ok _, show (enc9 x.Value).ok = true from law9.ok _, Bool.and_self], fun x a h => by obtain ⟨x0, x1, x2, x3, x4, x5, x6, rfl, h0, h1, h2, h3, h4, h5, h6⟩ := decx42 (show dec42 x = some a from h); show ((x0.ok && (x1.ok && (x2.ok && (x3.ok && (x4.ok && (x5.ok && (x6.ok && true)))))))) = true; simp only [law41.decok _ _ h0, law3.decok _ _ h1, law2.decok _ _ h2, law2.decok _ _ h3, law9.decok _ _ h4, law9.decok _ _ h5, law9.decok _ _ h6, Bool.and_self], fun x a h => by obtain ⟨x0, x1, x2, x3, x4, x5, x6, rfl, h0, h1, h2, h3, h4, h5, h6⟩ := decx42 (show dec42 x = some a from h); rfl, fun x => by show ((cel41 x.Stamp ++ (cel3 x.Kind ++ (cel2 x.Node ++ (cel2 x.Parent ++ (cel9 x.Name ++ (cel9 x.Key ++ (cel9 x.Value ++ [])))))))).all AV.one = true; simp only [List.all_append, List.all_nil, show (cel41 x.Stamp).all AV.one = true from law41.one _, show (cel3 x.Kind).all AV.one = true from law3.one _, show (cel2 x.Node).all AV.one = true from law2.one _, show (cel2 x.Parent).all AV.one = true from law2.one _, show (cel9 x.Name).all AV.one = true from law9.one _, show (cel9 x.Key).all AV.one = true from law9.one _, show (cel9 x.Value).all AV.one = true from law9.one _, Bool.and_self], fun x => noids_app (law41.noid x.Stamp) (noids_app (law3.noid x.Kind) (noids_app (law2.noid x.Node) (noids_app (law2.noid x.Parent) (noids_app (law9.noid x.Name) (noids_app (law9.noid x.Key) (noids_app (law9.noid x.Value) (trivial))))))), fun ks h a b => by have := eqCells_append (law41.kd _ rfl a.Stamp b.Stamp) (eqCells_append (law3.kd _ rfl a.Kind b.Kind) (eqCells_append (law2.kd _ rfl a.Node b.Node) (eqCells_append (law2.kd _ rfl a.Parent b.Parent) (eqCells_append (law9.kd _ rfl a.Name b.Name) (eqCells_append (law9.kd _ rfl a.Key b.Key) (eqCells_append (law9.kd _ rfl a.Value b.Value) ((show eqCells [] [] [] = some true from rfl)))))))); cases h; exact this, (fun l s h => nomatch h), (fun s l h => nomatch h)⟩
theorem decx44 {x : TV τ} {a : GAddr} (h : dec44 x = some a) : ∃ x0 x1, x = .agg [x0, x1] ∧ dec3 x0 = some a.Group ∧ dec3 x1 = some a.Replica := by
  unfold dec44 at h
  split at h
  · rename_i x0 x1
    split at h
    · rename_i a0 h0
      split at h
      · rename_i a1 h1
        cases h
        exact ⟨_, _, rfl, h0, h1⟩
      · cases h
    · cases h
  · cases h
theorem law44 : CodAt C 44 := ⟨fun x => by show ((enc3 x.Group).cells C ++ ((enc3 x.Replica).cells C ++ [])) = cel44 x; unfold cel44; exact congr (congrArg (· ++ ·) (law3.cel x.Group)) (congr (congrArg (· ++ ·) (law3.cel x.Replica)) (rfl)), fun x => by show ((cel3 x.Group ++ (cel3 x.Replica ++ []))).length = 2; rw [List.length_append, List.length_append]; have e0 : (cel3 x.Group).length = 1 := law3.len x.Group; have e1 : (cel3 x.Replica).length = 1 := law3.len x.Replica; simp only [e0, e1, List.length_nil], fun x a h => by obtain ⟨x0, x1, rfl, h0, h1⟩ := decx44 (show dec44 x = some a from h); exact CW.append (law3.dec _ _ h0) (CW.append (law3.dec _ _ h1) (CW.refl [])), fun x => by show (((enc3 x.Group).ok && ((enc3 x.Replica).ok && true))) = true; simp only [show (enc3 x.Group).ok = true from law3.ok _, show (enc3 x.Replica).ok = true from law3.ok _, Bool.and_self], fun x a h => by obtain ⟨x0, x1, rfl, h0, h1⟩ := decx44 (show dec44 x = some a from h); show ((x0.ok && (x1.ok && true))) = true; simp only [law3.decok _ _ h0, law3.decok _ _ h1, Bool.and_self], fun x a h => by obtain ⟨x0, x1, rfl, h0, h1⟩ := decx44 (show dec44 x = some a from h); rfl, fun x => by show ((cel3 x.Group ++ (cel3 x.Replica ++ []))).all AV.one = true; simp only [List.all_append, List.all_nil, show (cel3 x.Group).all AV.one = true from law3.one _, show (cel3 x.Replica).all AV.one = true from law3.one _, Bool.and_self], fun x => noids_app (law3.noid x.Group) (noids_app (law3.noid x.Replica) (trivial)), fun ks h a b => by have := eqCells_append (law3.kd _ rfl a.Group b.Group) (eqCells_append (law3.kd _ rfl a.Replica b.Replica) ((show eqCells [] [] [] = some true from rfl))); cases h; exact this, (fun l s h => nomatch h), (fun s l h => nomatch h)⟩
theorem decx45 {x : TV τ} {a : GAddr} (h : dec45 x = some a) : ∃ x0 x1, x = .agg [x0, x1] ∧ dec3 x0 = some a.Group ∧ dec3 x1 = some a.Replica := by
  unfold dec45 at h
  split at h
  · rename_i x0 x1
    split at h
    · rename_i a0 h0
      split at h
      · rename_i a1 h1
        cases h
        exact ⟨_, _, rfl, h0, h1⟩
      · cases h
    · cases h
  · cases h
theorem law45 : CodAt C 45 := ⟨fun x => by show ((enc3 x.Group).cells C ++ ((enc3 x.Replica).cells C ++ [])) = cel45 x; unfold cel45; exact congr (congrArg (· ++ ·) (law3.cel x.Group)) (congr (congrArg (· ++ ·) (law3.cel x.Replica)) (rfl)), fun x => by show ((cel3 x.Group ++ (cel3 x.Replica ++ []))).length = 2; rw [List.length_append, List.length_append]; have e0 : (cel3 x.Group).length = 1 := law3.len x.Group; have e1 : (cel3 x.Replica).length = 1 := law3.len x.Replica; simp only [e0, e1, List.length_nil], fun x a h => by obtain ⟨x0, x1, rfl, h0, h1⟩ := decx45 (show dec45 x = some a from h); exact CW.append (law3.dec _ _ h0) (CW.append (law3.dec _ _ h1) (CW.refl [])), fun x => by show (((enc3 x.Group).ok && ((enc3 x.Replica).ok && true))) = true; simp only [show (enc3 x.Group).ok = true from law3.ok _, show (enc3 x.Replica).ok = true from law3.ok _, Bool.and_self], fun x a h => by obtain ⟨x0, x1, rfl, h0, h1⟩ := decx45 (show dec45 x = some a from h); show ((x0.ok && (x1.ok && true))) = true; simp only [law3.decok _ _ h0, law3.decok _ _ h1, Bool.and_self], fun x a h => by obtain ⟨x0, x1, rfl, h0, h1⟩ := decx45 (show dec45 x = some a from h); rfl, fun x => by show ((cel3 x.Group ++ (cel3 x.Replica ++ []))).all AV.one = true; simp only [List.all_append, List.all_nil, show (cel3 x.Group).all AV.one = true from law3.one _, show (cel3 x.Replica).all AV.one = true from law3.one _, Bool.and_self], fun x => noids_app (law3.noid x.Group) (noids_app (law3.noid x.Replica) (trivial)), fun ks h a b => by have := eqCells_append (law3.kd _ rfl a.Group b.Group) (eqCells_append (law3.kd _ rfl a.Replica b.Replica) ((show eqCells [] [] [] = some true from rfl))); cases h; exact this, (fun l s h => nomatch h), (fun s l h => nomatch h)⟩
theorem decx46 {x : TV τ} {a : GBallot} (h : dec46 x = some a) : ∃ x0 x1, x = .agg [x0, x1] ∧ dec2 x0 = some a.Round ∧ dec3 x1 = some a.Replica := by
  unfold dec46 at h
  split at h
  · rename_i x0 x1
    split at h
    · rename_i a0 h0
      split at h
      · rename_i a1 h1
        cases h
        exact ⟨_, _, rfl, h0, h1⟩
      · cases h
    · cases h
  · cases h
theorem law46 : CodAt C 46 := ⟨fun x => by show ((enc2 x.Round).cells C ++ ((enc3 x.Replica).cells C ++ [])) = cel46 x; unfold cel46; exact congr (congrArg (· ++ ·) (law2.cel x.Round)) (congr (congrArg (· ++ ·) (law3.cel x.Replica)) (rfl)), fun x => by show ((cel2 x.Round ++ (cel3 x.Replica ++ []))).length = 2; rw [List.length_append, List.length_append]; have e0 : (cel2 x.Round).length = 1 := law2.len x.Round; have e1 : (cel3 x.Replica).length = 1 := law3.len x.Replica; simp only [e0, e1, List.length_nil], fun x a h => by obtain ⟨x0, x1, rfl, h0, h1⟩ := decx46 (show dec46 x = some a from h); exact CW.append (law2.dec _ _ h0) (CW.append (law3.dec _ _ h1) (CW.refl [])), fun x => by show (((enc2 x.Round).ok && ((enc3 x.Replica).ok && true))) = true; simp only [show (enc2 x.Round).ok = true from law2.ok _, show (enc3 x.Replica).ok = true from law3.ok _, Bool.and_self], fun x a h => by obtain ⟨x0, x1, rfl, h0, h1⟩ := decx46 (show dec46 x = some a from h); show ((x0.ok && (x1.ok && true))) = true; simp only [law2.decok _ _ h0, law3.decok _ _ h1, Bool.and_self], fun x a h => by obtain ⟨x0, x1, rfl, h0, h1⟩ := decx46 (show dec46 x = some a from h); rfl, fun x => by show ((cel2 x.Round ++ (cel3 x.Replica ++ []))).all AV.one = true; simp only [List.all_append, List.all_nil, show (cel2 x.Round).all AV.one = true from law2.one _, show (cel3 x.Replica).all AV.one = true from law3.one _, Bool.and_self], fun x => noids_app (law2.noid x.Round) (noids_app (law3.noid x.Replica) (trivial)), fun ks h a b => by have := eqCells_append (law2.kd _ rfl a.Round b.Round) (eqCells_append (law3.kd _ rfl a.Replica b.Replica) ((show eqCells [] [] [] = some true from rfl))); cases h; exact this, (fun l s h => nomatch h), (fun s l h => nomatch h)⟩
theorem decx47 {x : TV τ} {a : GBallot} (h : dec47 x = some a) : ∃ x0 x1, x = .agg [x0, x1] ∧ dec2 x0 = some a.Round ∧ dec3 x1 = some a.Replica := by
  unfold dec47 at h
  split at h
  · rename_i x0 x1
    split at h
    · rename_i a0 h0
      split at h
      · rename_i a1 h1
        cases h
        exact ⟨_, _, rfl, h0, h1⟩
      · cases h
    · cases h
  · cases h
theorem law47 : CodAt C 47 := ⟨fun x => by show ((enc2 x.Round).cells C ++ ((enc3 x.Replica).cells C ++ [])) = cel47 x; unfold cel47; exact congr (congrArg (· ++ ·) (law2.cel x.Round)) (congr (congrArg (· ++ ·) (law3.cel x.Replica)) (rfl)), fun x => by show ((cel2 x.Round ++ (cel3 x.Replica ++ []))).length = 2; rw [List.length_append, List.length_append]; have e0 : (cel2 x.Round).length = 1 := law2.len x.Round; have e1 : (cel3 x.Replica).length = 1 := law3.len x.Replica; simp only [e0, e1, List.length_nil], fun x a h => by obtain ⟨x0, x1, rfl, h0, h1⟩ := decx47 (show dec47 x = some a from h); exact CW.append (law2.dec _ _ h0) (CW.append (law3.dec _ _ h1) (CW.refl [])), fun x => by show (((enc2 x.Round).ok && ((enc3 x.Replica).ok && true))) = true; simp only [show (enc2 x.Round).ok = true from law2.ok _, show (enc3 x.Replica).ok = true from law3.ok _, Bool.and_self], fun x a h => by obtain ⟨x0, x1, rfl, h0, h1⟩ := decx47 (show dec47 x = some a from h); show ((x0.ok && (x1.ok && true))) = true; simp only [law2.decok _ _ h0, law3.decok _ _ h1, Bool.and_self], fun x a h => by obtain ⟨x0, x1, rfl, h0, h1⟩ := decx47 (show dec47 x = some a from h); rfl, fun x => by show ((cel2 x.Round ++ (cel3 x.Replica ++ []))).all AV.one = true; simp only [List.all_append, List.all_nil, show (cel2 x.Round).all AV.one = true from law2.one _, show (cel3 x.Replica).all AV.one = true from law3.one _, Bool.and_self], fun x => noids_app (law2.noid x.Round) (noids_app (law3.noid x.Replica) (trivial)), fun ks h a b => by have := eqCells_append (law2.kd _ rfl a.Round b.Round) (eqCells_append (law3.kd _ rfl a.Replica b.Replica) ((show eqCells [] [] [] = some true from rfl))); cases h; exact this, (fun l s h => nomatch h), (fun s l h => nomatch h)⟩
theorem decx53 {x : TV τ} {a : GEntry} (h : dec53 x = some a) : ∃ x0 x1 x2 x3 x4 x5 x6 x7 x8 x9 x10 x11 x12 x13 x14, x = .agg [x0, x1, x2, x3, x4, x5, x6, x7, x8, x9, x10, x11, x12, x13, x14] ∧ dec3 x0 = some a.Kind ∧ dec2 x1 = some a.Session ∧ dec2 x2 = some a.Request ∧ dec43 x3 = some a.Op ∧ dec3 x4 = some a.Origin ∧ dec2 x5 = some a.Seq ∧ dec28 x6 = some a.Ops ∧ dec26 x7 = some a.Epoch ∧ dec3 x8 = some a.From ∧ dec24 x9 = some a.Vector_ ∧ dec2 x10 = some a.Clock ∧ dec51 x11 = some a.Part ∧ dec3 x12 = some a.Site ∧ dec3 x13 = some a.Sponsor ∧ dec2 x14 = some a.Length := by
  unfold dec53 at h
  split at h
  · rename_i x0 x1 x2 x3 x4 x5 x6 x7 x8 x9 x10 x11 x12 x13 x14
    split at h
    · rename_i a0 h0
      split at h
      · rename_i a1 h1
        split at h
        · rename_i a2 h2
          split at h
          · rename_i a3 h3
            split at h
            · rename_i a4 h4
              split at h
              · rename_i a5 h5
                split at h
                · rename_i a6 h6
                  split at h
                  · rename_i a7 h7
                    split at h
                    · rename_i a8 h8
                      split at h
                      · rename_i a9 h9
                        split at h
                        · rename_i a10 h10
                          split at h
                          · rename_i a11 h11
                            split at h
                            · rename_i a12 h12
                              split at h
                              · rename_i a13 h13
                                split at h
                                · rename_i a14 h14
                                  cases h
                                  exact ⟨_, _, _, _, _, _, _, _, _, _, _, _, _, _, _, rfl, h0, h1, h2, h3, h4, h5, h6, h7, h8, h9, h10, h11, h12, h13, h14⟩
                                · cases h
                              · cases h
                            · cases h
                          · cases h
                        · cases h
                      · cases h
                    · cases h
                  · cases h
                · cases h
              · cases h
            · cases h
          · cases h
        · cases h
      · cases h
    · cases h
  · cases h
theorem law53 : CodAt C 53 := ⟨fun x => by show ((enc3 x.Kind).cells C ++ ((enc2 x.Session).cells C ++ ((enc2 x.Request).cells C ++ ((enc43 x.Op).cells C ++ ((enc3 x.Origin).cells C ++ ((enc2 x.Seq).cells C ++ ((enc28 x.Ops).cells C ++ ((enc26 x.Epoch).cells C ++ ((enc3 x.From).cells C ++ ((enc24 x.Vector_).cells C ++ ((enc2 x.Clock).cells C ++ ((enc51 x.Part).cells C ++ ((enc3 x.Site).cells C ++ ((enc3 x.Sponsor).cells C ++ ((enc2 x.Length).cells C ++ []))))))))))))))) = cel53 x; unfold cel53; exact congr (congrArg (· ++ ·) (law3.cel x.Kind)) (congr (congrArg (· ++ ·) (law2.cel x.Session)) (congr (congrArg (· ++ ·) (law2.cel x.Request)) (congr (congrArg (· ++ ·) (law43.cel x.Op)) (congr (congrArg (· ++ ·) (law3.cel x.Origin)) (congr (congrArg (· ++ ·) (law2.cel x.Seq)) (congr (congrArg (· ++ ·) (law28.cel x.Ops)) (congr (congrArg (· ++ ·) (law26.cel x.Epoch)) (congr (congrArg (· ++ ·) (law3.cel x.From)) (congr (congrArg (· ++ ·) (law24.cel x.Vector_)) (congr (congrArg (· ++ ·) (law2.cel x.Clock)) (congr (congrArg (· ++ ·) (law51.cel x.Part)) (congr (congrArg (· ++ ·) (law3.cel x.Site)) (congr (congrArg (· ++ ·) (law3.cel x.Sponsor)) (congr (congrArg (· ++ ·) (law2.cel x.Length)) (rfl))))))))))))))), fun x => by show ((cel3 x.Kind ++ (cel2 x.Session ++ (cel2 x.Request ++ (cel43 x.Op ++ (cel3 x.Origin ++ (cel2 x.Seq ++ (cel28 x.Ops ++ (cel26 x.Epoch ++ (cel3 x.From ++ (cel24 x.Vector_ ++ (cel2 x.Clock ++ (cel51 x.Part ++ (cel3 x.Site ++ (cel3 x.Sponsor ++ (cel2 x.Length ++ [])))))))))))))))).length = 56; rw [List.length_append, List.length_append, List.length_append, List.length_append, List.length_append, List.length_append, List.length_append, List.length_append, List.length_append, List.length_append, List.length_append, List.length_append, List.length_append, List.length_append, List.length_append]; have e0 : (cel3 x.Kind).length = 1 := law3.len x.Kind; have e1 : (cel2 x.Session).length = 1 := law2.len x.Session; have e2 : (cel2 x.Request).length = 1 := law2.len x.Request; have e3 : (cel43 x.Op).length = 8 := law43.len x.Op; have e4 : (cel3 x.Origin).length = 1 := law3.len x.Origin; have e5 : (cel2 x.Seq).length = 1 := law2.len x.Seq; have e6 : (cel28 x.Ops).length = 1 := law28.len x.Ops; have e7 : (cel26 x.Epoch).length = 25 := law26.len x.Epoch; have e8 : (cel3 x.From).length = 1 := law3.len x.From; have e9 : (cel24 x.Vector_).length = 8 := law24.len x.Vector_; have e10 : (cel2 x.Clock).length = 1 := law2.len x.Clock; have e11 : (cel51 x.Part).length = 4 := law51.len x.Part; have e12 : (cel3 x.Site).length = 1 := law3.len x.Site; have e13 : (cel3 x.Sponsor).length = 1 := law3.len x.Sponsor; have e14 : (cel2 x.Length).length = 1 := law2.len x.Length; simp only [e0, e1, e2, e3, e4, e5, e6, e7, e8, e9, e10, e11, e12, e13, e14, List.length_nil], fun x a h => by obtain ⟨x0, x1, x2, x3, x4, x5, x6, x7, x8, x9, x10, x11, x12, x13, x14, rfl, h0, h1, h2, h3, h4, h5, h6, h7, h8, h9, h10, h11, h12, h13, h14⟩ := decx53 (show dec53 x = some a from h); exact CW.append (law3.dec _ _ h0) (CW.append (law2.dec _ _ h1) (CW.append (law2.dec _ _ h2) (CW.append (law43.dec _ _ h3) (CW.append (law3.dec _ _ h4) (CW.append (law2.dec _ _ h5) (CW.append (law28.dec _ _ h6) (CW.append (law26.dec _ _ h7) (CW.append (law3.dec _ _ h8) (CW.append (law24.dec _ _ h9) (CW.append (law2.dec _ _ h10) (CW.append (law51.dec _ _ h11) (CW.append (law3.dec _ _ h12) (CW.append (law3.dec _ _ h13) (CW.append (law2.dec _ _ h14) (CW.refl []))))))))))))))), fun x => by show (((enc3 x.Kind).ok && ((enc2 x.Session).ok && ((enc2 x.Request).ok && ((enc43 x.Op).ok && ((enc3 x.Origin).ok && ((enc2 x.Seq).ok && ((enc28 x.Ops).ok && ((enc26 x.Epoch).ok && ((enc3 x.From).ok && ((enc24 x.Vector_).ok && ((enc2 x.Clock).ok && ((enc51 x.Part).ok && ((enc3 x.Site).ok && ((enc3 x.Sponsor).ok && ((enc2 x.Length).ok && true)))))))))))))))) = true; simp only [show (enc3 x.Kind).ok = true from law3.ok _, show (enc2 x.Session).ok = true from law2.ok _, show (enc2 x.Request).ok = true from law2.ok _, show (enc43 x.Op).ok = true from law43.ok _, show (enc3 x.Origin).ok = true from law3.ok _, show (enc2 x.Seq).ok = true from law2.ok _, show (enc28 x.Ops).ok = true from law28.ok _, show (enc26 x.Epoch).ok = true from law26.ok _, show (enc3 x.From).ok = true from law3.ok _, show (enc24 x.Vector_).ok = true from law24.ok _, show (enc2 x.Clock).ok = true from law2.ok _, show (enc51 x.Part).ok = true from law51.ok _, show (enc3 x.Site).ok = true from law3.ok _, show (enc3 x.Sponsor).ok = true from law3.ok _, show (enc2 x.Length).ok = true from law2.ok _, Bool.and_self], fun x a h => by obtain ⟨x0, x1, x2, x3, x4, x5, x6, x7, x8, x9, x10, x11, x12, x13, x14, rfl, h0, h1, h2, h3, h4, h5, h6, h7, h8, h9, h10, h11, h12, h13, h14⟩ := decx53 (show dec53 x = some a from h); show ((x0.ok && (x1.ok && (x2.ok && (x3.ok && (x4.ok && (x5.ok && (x6.ok && (x7.ok && (x8.ok && (x9.ok && (x10.ok && (x11.ok && (x12.ok && (x13.ok && (x14.ok && true)))))))))))))))) = true; simp only [law3.decok _ _ h0, law2.decok _ _ h1, law2.decok _ _ h2, law43.decok _ _ h3, law3.decok _ _ h4, law2.decok _ _ h5, law28.decok _ _ h6, law26.decok _ _ h7, law3.decok _ _ h8, law24.decok _ _ h9, law2.decok _ _ h10, law51.decok _ _ h11, law3.decok _ _ h12, law3.decok _ _ h13, law2.decok _ _ h14, Bool.and_self], fun x a h => by obtain ⟨x0, x1, x2, x3, x4, x5, x6, x7, x8, x9, x10, x11, x12, x13, x14, rfl, h0, h1, h2, h3, h4, h5, h6, h7, h8, h9, h10, h11, h12, h13, h14⟩ := decx53 (show dec53 x = some a from h); rfl, fun x => by show ((cel3 x.Kind ++ (cel2 x.Session ++ (cel2 x.Request ++ (cel43 x.Op ++ (cel3 x.Origin ++ (cel2 x.Seq ++ (cel28 x.Ops ++ (cel26 x.Epoch ++ (cel3 x.From ++ (cel24 x.Vector_ ++ (cel2 x.Clock ++ (cel51 x.Part ++ (cel3 x.Site ++ (cel3 x.Sponsor ++ (cel2 x.Length ++ [])))))))))))))))).all AV.one = true; simp only [List.all_append, List.all_nil, show (cel3 x.Kind).all AV.one = true from law3.one _, show (cel2 x.Session).all AV.one = true from law2.one _, show (cel2 x.Request).all AV.one = true from law2.one _, show (cel43 x.Op).all AV.one = true from law43.one _, show (cel3 x.Origin).all AV.one = true from law3.one _, show (cel2 x.Seq).all AV.one = true from law2.one _, show (cel28 x.Ops).all AV.one = true from law28.one _, show (cel26 x.Epoch).all AV.one = true from law26.one _, show (cel3 x.From).all AV.one = true from law3.one _, show (cel24 x.Vector_).all AV.one = true from law24.one _, show (cel2 x.Clock).all AV.one = true from law2.one _, show (cel51 x.Part).all AV.one = true from law51.one _, show (cel3 x.Site).all AV.one = true from law3.one _, show (cel3 x.Sponsor).all AV.one = true from law3.one _, show (cel2 x.Length).all AV.one = true from law2.one _, Bool.and_self], fun x => noids_app (law3.noid x.Kind) (noids_app (law2.noid x.Session) (noids_app (law2.noid x.Request) (noids_app (law43.noid x.Op) (noids_app (law3.noid x.Origin) (noids_app (law2.noid x.Seq) (noids_app (law28.noid x.Ops) (noids_app (law26.noid x.Epoch) (noids_app (law3.noid x.From) (noids_app (law24.noid x.Vector_) (noids_app (law2.noid x.Clock) (noids_app (law51.noid x.Part) (noids_app (law3.noid x.Site) (noids_app (law3.noid x.Sponsor) (noids_app (law2.noid x.Length) (trivial))))))))))))))), (fun ks h => nomatch h), (fun l s h => nomatch h), (fun s l h => nomatch h)⟩
theorem decx101 {x : TV τ} {a : GSlotted} (h : dec101 x = some a) : ∃ x0 x1 x2, x = .agg [x0, x1, x2] ∧ dec2 x0 = some a.Slot ∧ dec47 x1 = some a.Ballot ∧ dec53 x2 = some a.Entry := by
  unfold dec101 at h
  split at h
  · rename_i x0 x1 x2
    split at h
    · rename_i a0 h0
      split at h
      · rename_i a1 h1
        split at h
        · rename_i a2 h2
          cases h
          exact ⟨_, _, _, rfl, h0, h1, h2⟩
        · cases h
      · cases h
    · cases h
  · cases h
theorem law101 : CodAt C 101 := ⟨fun x => by show ((enc2 x.Slot).cells C ++ ((enc47 x.Ballot).cells C ++ ((enc53 x.Entry).cells C ++ []))) = cel101 x; unfold cel101; exact congr (congrArg (· ++ ·) (law2.cel x.Slot)) (congr (congrArg (· ++ ·) (law47.cel x.Ballot)) (congr (congrArg (· ++ ·) (law53.cel x.Entry)) (rfl))), fun x => by show ((cel2 x.Slot ++ (cel47 x.Ballot ++ (cel53 x.Entry ++ [])))).length = 59; rw [List.length_append, List.length_append, List.length_append]; have e0 : (cel2 x.Slot).length = 1 := law2.len x.Slot; have e1 : (cel47 x.Ballot).length = 2 := law47.len x.Ballot; have e2 : (cel53 x.Entry).length = 56 := law53.len x.Entry; simp only [e0, e1, e2, List.length_nil], fun x a h => by obtain ⟨x0, x1, x2, rfl, h0, h1, h2⟩ := decx101 (show dec101 x = some a from h); exact CW.append (law2.dec _ _ h0) (CW.append (law47.dec _ _ h1) (CW.append (law53.dec _ _ h2) (CW.refl []))), fun x => by show (((enc2 x.Slot).ok && ((enc47 x.Ballot).ok && ((enc53 x.Entry).ok && true)))) = true; simp only [show (enc2 x.Slot).ok = true from law2.ok _, show (enc47 x.Ballot).ok = true from law47.ok _, show (enc53 x.Entry).ok = true from law53.ok _, Bool.and_self], fun x a h => by obtain ⟨x0, x1, x2, rfl, h0, h1, h2⟩ := decx101 (show dec101 x = some a from h); show ((x0.ok && (x1.ok && (x2.ok && true)))) = true; simp only [law2.decok _ _ h0, law47.decok _ _ h1, law53.decok _ _ h2, Bool.and_self], fun x a h => by obtain ⟨x0, x1, x2, rfl, h0, h1, h2⟩ := decx101 (show dec101 x = some a from h); rfl, fun x => by show ((cel2 x.Slot ++ (cel47 x.Ballot ++ (cel53 x.Entry ++ [])))).all AV.one = true; simp only [List.all_append, List.all_nil, show (cel2 x.Slot).all AV.one = true from law2.one _, show (cel47 x.Ballot).all AV.one = true from law47.one _, show (cel53 x.Entry).all AV.one = true from law53.one _, Bool.and_self], fun x => noids_app (law2.noid x.Slot) (noids_app (law47.noid x.Ballot) (noids_app (law53.noid x.Entry) (trivial))), (fun ks h => nomatch h), (fun l s h => nomatch h), (fun s l h => nomatch h)⟩
theorem law48 : CodAt C 48 := ⟨fun x => rfl, fun x => rfl, fun x a h => (dSl_cw (C := C) (show dSl 101 x = some a from h)).1, fun x => rfl, fun x a h => (dSl_cw (C := C) (show dSl 101 x = some a from h)).2.1, fun x a h => (dSl_cw (C := C) (show dSl 101 x = some a from h)).2.2, fun a => rfl, fun a => noids_one (NoId.asl fun cs hc => by obtain ⟨y, _, rfl⟩ := List.mem_map.1 hc; exact law101.noid y), (fun ks h => nomatch h), (fun l s h => nomatch h), (fun s l h => nomatch h)⟩
theorem decx50 {x : TV τ} {a : GPart} (h : dec50 x = some a) : ∃ x0 x1 x2 x3, x = .agg [x0, x1, x2, x3] ∧ dec2 x0 = some a.Snap ∧ dec3 x1 = some a.Index ∧ dec3 x2 = some a.Many ∧ dec49 x3 = some a.Data := by
  unfold dec50 at h
  split at h
  · rename_i x0 x1 x2 x3
    split at h
    · rename_i a0 h0
      split at h
      · rename_i a1 h1
        split at h
        · rename_i a2 h2
          split at h
          · rename_i a3 h3
            cases h
            exact ⟨_, _, _, _, rfl, h0, h1, h2, h3⟩
          · cases h
        · cases h
      · cases h
    · cases h
  · cases h
theorem law50 : CodAt C 50 := ⟨fun x => by show ((enc2 x.Snap).cells C ++ ((enc3 x.Index).cells C ++ ((enc3 x.Many).cells C ++ ((enc49 x.Data).cells C ++ [])))) = cel50 x; unfold cel50; exact congr (congrArg (· ++ ·) (law2.cel x.Snap)) (congr (congrArg (· ++ ·) (law3.cel x.Index)) (congr (congrArg (· ++ ·) (law3.cel x.Many)) (congr (congrArg (· ++ ·) (law49.cel x.Data)) (rfl)))), fun x => by show ((cel2 x.Snap ++ (cel3 x.Index ++ (cel3 x.Many ++ (cel49 x.Data ++ []))))).length = 4; rw [List.length_append, List.length_append, List.length_append, List.length_append]; have e0 : (cel2 x.Snap).length = 1 := law2.len x.Snap; have e1 : (cel3 x.Index).length = 1 := law3.len x.Index; have e2 : (cel3 x.Many).length = 1 := law3.len x.Many; have e3 : (cel49 x.Data).length = 1 := law49.len x.Data; simp only [e0, e1, e2, e3, List.length_nil], fun x a h => by obtain ⟨x0, x1, x2, x3, rfl, h0, h1, h2, h3⟩ := decx50 (show dec50 x = some a from h); exact CW.append (law2.dec _ _ h0) (CW.append (law3.dec _ _ h1) (CW.append (law3.dec _ _ h2) (CW.append (law49.dec _ _ h3) (CW.refl [])))), fun x => by show (((enc2 x.Snap).ok && ((enc3 x.Index).ok && ((enc3 x.Many).ok && ((enc49 x.Data).ok && true))))) = true; simp only [show (enc2 x.Snap).ok = true from law2.ok _, show (enc3 x.Index).ok = true from law3.ok _, show (enc3 x.Many).ok = true from law3.ok _, show (enc49 x.Data).ok = true from law49.ok _, Bool.and_self], fun x a h => by obtain ⟨x0, x1, x2, x3, rfl, h0, h1, h2, h3⟩ := decx50 (show dec50 x = some a from h); show ((x0.ok && (x1.ok && (x2.ok && (x3.ok && true))))) = true; simp only [law2.decok _ _ h0, law3.decok _ _ h1, law3.decok _ _ h2, law49.decok _ _ h3, Bool.and_self], fun x a h => by obtain ⟨x0, x1, x2, x3, rfl, h0, h1, h2, h3⟩ := decx50 (show dec50 x = some a from h); rfl, fun x => by show ((cel2 x.Snap ++ (cel3 x.Index ++ (cel3 x.Many ++ (cel49 x.Data ++ []))))).all AV.one = true; simp only [List.all_append, List.all_nil, show (cel2 x.Snap).all AV.one = true from law2.one _, show (cel3 x.Index).all AV.one = true from law3.one _, show (cel3 x.Many).all AV.one = true from law3.one _, show (cel49 x.Data).all AV.one = true from law49.one _, Bool.and_self], fun x => noids_app (law2.noid x.Snap) (noids_app (law3.noid x.Index) (noids_app (law3.noid x.Many) (noids_app (law49.noid x.Data) (trivial)))), (fun ks h => nomatch h), (fun l s h => nomatch h), (fun s l h => nomatch h)⟩
theorem decx52 {x : TV τ} {a : GEntry} (h : dec52 x = some a) : ∃ x0 x1 x2 x3 x4 x5 x6 x7 x8 x9 x10 x11 x12 x13 x14, x = .agg [x0, x1, x2, x3, x4, x5, x6, x7, x8, x9, x10, x11, x12, x13, x14] ∧ dec3 x0 = some a.Kind ∧ dec2 x1 = some a.Session ∧ dec2 x2 = some a.Request ∧ dec43 x3 = some a.Op ∧ dec3 x4 = some a.Origin ∧ dec2 x5 = some a.Seq ∧ dec28 x6 = some a.Ops ∧ dec26 x7 = some a.Epoch ∧ dec3 x8 = some a.From ∧ dec24 x9 = some a.Vector_ ∧ dec2 x10 = some a.Clock ∧ dec51 x11 = some a.Part ∧ dec3 x12 = some a.Site ∧ dec3 x13 = some a.Sponsor ∧ dec2 x14 = some a.Length := by
  unfold dec52 at h
  split at h
  · rename_i x0 x1 x2 x3 x4 x5 x6 x7 x8 x9 x10 x11 x12 x13 x14
    split at h
    · rename_i a0 h0
      split at h
      · rename_i a1 h1
        split at h
        · rename_i a2 h2
          split at h
          · rename_i a3 h3
            split at h
            · rename_i a4 h4
              split at h
              · rename_i a5 h5
                split at h
                · rename_i a6 h6
                  split at h
                  · rename_i a7 h7
                    split at h
                    · rename_i a8 h8
                      split at h
                      · rename_i a9 h9
                        split at h
                        · rename_i a10 h10
                          split at h
                          · rename_i a11 h11
                            split at h
                            · rename_i a12 h12
                              split at h
                              · rename_i a13 h13
                                split at h
                                · rename_i a14 h14
                                  cases h
                                  exact ⟨_, _, _, _, _, _, _, _, _, _, _, _, _, _, _, rfl, h0, h1, h2, h3, h4, h5, h6, h7, h8, h9, h10, h11, h12, h13, h14⟩
                                · cases h
                              · cases h
                            · cases h
                          · cases h
                        · cases h
                      · cases h
                    · cases h
                  · cases h
                · cases h
              · cases h
            · cases h
          · cases h
        · cases h
      · cases h
    · cases h
  · cases h
theorem law52 : CodAt C 52 := ⟨fun x => by show ((enc3 x.Kind).cells C ++ ((enc2 x.Session).cells C ++ ((enc2 x.Request).cells C ++ ((enc43 x.Op).cells C ++ ((enc3 x.Origin).cells C ++ ((enc2 x.Seq).cells C ++ ((enc28 x.Ops).cells C ++ ((enc26 x.Epoch).cells C ++ ((enc3 x.From).cells C ++ ((enc24 x.Vector_).cells C ++ ((enc2 x.Clock).cells C ++ ((enc51 x.Part).cells C ++ ((enc3 x.Site).cells C ++ ((enc3 x.Sponsor).cells C ++ ((enc2 x.Length).cells C ++ []))))))))))))))) = cel52 x; unfold cel52; exact congr (congrArg (· ++ ·) (law3.cel x.Kind)) (congr (congrArg (· ++ ·) (law2.cel x.Session)) (congr (congrArg (· ++ ·) (law2.cel x.Request)) (congr (congrArg (· ++ ·) (law43.cel x.Op)) (congr (congrArg (· ++ ·) (law3.cel x.Origin)) (congr (congrArg (· ++ ·) (law2.cel x.Seq)) (congr (congrArg (· ++ ·) (law28.cel x.Ops)) (congr (congrArg (· ++ ·) (law26.cel x.Epoch)) (congr (congrArg (· ++ ·) (law3.cel x.From)) (congr (congrArg (· ++ ·) (law24.cel x.Vector_)) (congr (congrArg (· ++ ·) (law2.cel x.Clock)) (congr (congrArg (· ++ ·) (law51.cel x.Part)) (congr (congrArg (· ++ ·) (law3.cel x.Site)) (congr (congrArg (· ++ ·) (law3.cel x.Sponsor)) (congr (congrArg (· ++ ·) (law2.cel x.Length)) (rfl))))))))))))))), fun x => by show ((cel3 x.Kind ++ (cel2 x.Session ++ (cel2 x.Request ++ (cel43 x.Op ++ (cel3 x.Origin ++ (cel2 x.Seq ++ (cel28 x.Ops ++ (cel26 x.Epoch ++ (cel3 x.From ++ (cel24 x.Vector_ ++ (cel2 x.Clock ++ (cel51 x.Part ++ (cel3 x.Site ++ (cel3 x.Sponsor ++ (cel2 x.Length ++ [])))))))))))))))).length = 56; rw [List.length_append, List.length_append, List.length_append, List.length_append, List.length_append, List.length_append, List.length_append, List.length_append, List.length_append, List.length_append, List.length_append, List.length_append, List.length_append, List.length_append, List.length_append]; have e0 : (cel3 x.Kind).length = 1 := law3.len x.Kind; have e1 : (cel2 x.Session).length = 1 := law2.len x.Session; have e2 : (cel2 x.Request).length = 1 := law2.len x.Request; have e3 : (cel43 x.Op).length = 8 := law43.len x.Op; have e4 : (cel3 x.Origin).length = 1 := law3.len x.Origin; have e5 : (cel2 x.Seq).length = 1 := law2.len x.Seq; have e6 : (cel28 x.Ops).length = 1 := law28.len x.Ops; have e7 : (cel26 x.Epoch).length = 25 := law26.len x.Epoch; have e8 : (cel3 x.From).length = 1 := law3.len x.From; have e9 : (cel24 x.Vector_).length = 8 := law24.len x.Vector_; have e10 : (cel2 x.Clock).length = 1 := law2.len x.Clock; have e11 : (cel51 x.Part).length = 4 := law51.len x.Part; have e12 : (cel3 x.Site).length = 1 := law3.len x.Site; have e13 : (cel3 x.Sponsor).length = 1 := law3.len x.Sponsor; have e14 : (cel2 x.Length).length = 1 := law2.len x.Length; simp only [e0, e1, e2, e3, e4, e5, e6, e7, e8, e9, e10, e11, e12, e13, e14, List.length_nil], fun x a h => by obtain ⟨x0, x1, x2, x3, x4, x5, x6, x7, x8, x9, x10, x11, x12, x13, x14, rfl, h0, h1, h2, h3, h4, h5, h6, h7, h8, h9, h10, h11, h12, h13, h14⟩ := decx52 (show dec52 x = some a from h); exact CW.append (law3.dec _ _ h0) (CW.append (law2.dec _ _ h1) (CW.append (law2.dec _ _ h2) (CW.append (law43.dec _ _ h3) (CW.append (law3.dec _ _ h4) (CW.append (law2.dec _ _ h5) (CW.append (law28.dec _ _ h6) (CW.append (law26.dec _ _ h7) (CW.append (law3.dec _ _ h8) (CW.append (law24.dec _ _ h9) (CW.append (law2.dec _ _ h10) (CW.append (law51.dec _ _ h11) (CW.append (law3.dec _ _ h12) (CW.append (law3.dec _ _ h13) (CW.append (law2.dec _ _ h14) (CW.refl []))))))))))))))), fun x => by show (((enc3 x.Kind).ok && ((enc2 x.Session).ok && ((enc2 x.Request).ok && ((enc43 x.Op).ok && ((enc3 x.Origin).ok && ((enc2 x.Seq).ok && ((enc28 x.Ops).ok && ((enc26 x.Epoch).ok && ((enc3 x.From).ok && ((enc24 x.Vector_).ok && ((enc2 x.Clock).ok && ((enc51 x.Part).ok && ((enc3 x.Site).ok && ((enc3 x.Sponsor).ok && ((enc2 x.Length).ok && true)))))))))))))))) = true; simp only [show (enc3 x.Kind).ok = true from law3.ok _, show (enc2 x.Session).ok = true from law2.ok _, show (enc2 x.Request).ok = true from law2.ok _, show (enc43 x.Op).ok = true from law43.ok _, show (enc3 x.Origin).ok = true from law3.ok _, show (enc2 x.Seq).ok = true from law2.ok _, show (enc28 x.Ops).ok = true from law28.ok _, show (enc26 x.Epoch).ok = true from law26.ok _, show (enc3 x.From).ok = true from law3.ok _, show (enc24 x.Vector_).ok = true from law24.ok _, show (enc2 x.Clock).ok = true from law2.ok _, show (enc51 x.Part).ok = true from law51.ok _, show (enc3 x.Site).ok = true from law3.ok _, show (enc3 x.Sponsor).ok = true from law3.ok _, show (enc2 x.Length).ok = true from law2.ok _, Bool.and_self], fun x a h => by obtain ⟨x0, x1, x2, x3, x4, x5, x6, x7, x8, x9, x10, x11, x12, x13, x14, rfl, h0, h1, h2, h3, h4, h5, h6, h7, h8, h9, h10, h11, h12, h13, h14⟩ := decx52 (show dec52 x = some a from h); show ((x0.ok && (x1.ok && (x2.ok && (x3.ok && (x4.ok && (x5.ok && (x6.ok && (x7.ok && (x8.ok && (x9.ok && (x10.ok && (x11.ok && (x12.ok && (x13.ok && (x14.ok && true)))))))))))))))) = true; simp only [law3.decok _ _ h0, law2.decok _ _ h1, law2.decok _ _ h2, law43.decok _ _ h3, law3.decok _ _ h4, law2.decok _ _ h5, law28.decok _ _ h6, law26.decok _ _ h7, law3.decok _ _ h8, law24.decok _ _ h9, law2.decok _ _ h10, law51.decok _ _ h11, law3.decok _ _ h12, law3.decok _ _ h13, law2.decok _ _ h14, Bool.and_self], fun x a h => by obtain ⟨x0, x1, x2, x3, x4, x5, x6, x7, x8, x9, x10, x11, x12, x13, x14, rfl, h0, h1, h2, h3, h4, h5, h6, h7, h8, h9, h10, h11, h12, h13, h14⟩ := decx52 (show dec52 x = some a from h); rfl, fun x => by show ((cel3 x.Kind ++ (cel2 x.Session ++ (cel2 x.Request ++ (cel43 x.Op ++ (cel3 x.Origin ++ (cel2 x.Seq ++ (cel28 x.Ops ++ (cel26 x.Epoch ++ (cel3 x.From ++ (cel24 x.Vector_ ++ (cel2 x.Clock ++ (cel51 x.Part ++ (cel3 x.Site ++ (cel3 x.Sponsor ++ (cel2 x.Length ++ [])))))))))))))))).all AV.one = true; simp only [List.all_append, List.all_nil, show (cel3 x.Kind).all AV.one = true from law3.one _, show (cel2 x.Session).all AV.one = true from law2.one _, show (cel2 x.Request).all AV.one = true from law2.one _, show (cel43 x.Op).all AV.one = true from law43.one _, show (cel3 x.Origin).all AV.one = true from law3.one _, show (cel2 x.Seq).all AV.one = true from law2.one _, show (cel28 x.Ops).all AV.one = true from law28.one _, show (cel26 x.Epoch).all AV.one = true from law26.one _, show (cel3 x.From).all AV.one = true from law3.one _, show (cel24 x.Vector_).all AV.one = true from law24.one _, show (cel2 x.Clock).all AV.one = true from law2.one _, show (cel51 x.Part).all AV.one = true from law51.one _, show (cel3 x.Site).all AV.one = true from law3.one _, show (cel3 x.Sponsor).all AV.one = true from law3.one _, show (cel2 x.Length).all AV.one = true from law2.one _, Bool.and_self], fun x => noids_app (law3.noid x.Kind) (noids_app (law2.noid x.Session) (noids_app (law2.noid x.Request) (noids_app (law43.noid x.Op) (noids_app (law3.noid x.Origin) (noids_app (law2.noid x.Seq) (noids_app (law28.noid x.Ops) (noids_app (law26.noid x.Epoch) (noids_app (law3.noid x.From) (noids_app (law24.noid x.Vector_) (noids_app (law2.noid x.Clock) (noids_app (law51.noid x.Part) (noids_app (law3.noid x.Site) (noids_app (law3.noid x.Sponsor) (noids_app (law2.noid x.Length) (trivial))))))))))))))), (fun ks h => nomatch h), (fun l s h => nomatch h), (fun s l h => nomatch h)⟩
theorem decx54 {x : TV τ} {a : GMsg} (h : dec54 x = some a) : ∃ x0 x1 x2 x3 x4 x5 x6 x7 x8 x9 x10 x11 x12 x13, x = .agg [x0, x1, x2, x3, x4, x5, x6, x7, x8, x9, x10, x11, x12, x13] ∧ dec3 x0 = some a.Kind ∧ dec45 x1 = some a.From ∧ dec45 x2 = some a.To ∧ dec47 x3 = some a.Ballot ∧ dec2 x4 = some a.Slot ∧ dec48 x5 = some a.List_ ∧ dec53 x6 = some a.Entry ∧ dec2 x7 = some a.Number ∧ dec24 x8 = some a.Vector_ ∧ dec2 x9 = some a.Clock ∧ dec3 x10 = some a.Origin ∧ dec28 x11 = some a.Ops ∧ dec26 x12 = some a.Epoch ∧ dec51 x13 = some a.Part := by
  unfold dec54 at h
  split at h
  · rename_i x0 x1 x2 x3 x4 x5 x6 x7 x8 x9 x10 x11 x12 x13
    split at h
    · rename_i a0 h0
      split at h
      · rename_i a1 h1
        split at h
        · rename_i a2 h2
          split at h
          · rename_i a3 h3
            split at h
            · rename_i a4 h4
              split at h
              · rename_i a5 h5
                split at h
                · rename_i a6 h6
                  split at h
                  · rename_i a7 h7
                    split at h
                    · rename_i a8 h8
                      split at h
                      · rename_i a9 h9
                        split at h
                        · rename_i a10 h10
                          split at h
                          · rename_i a11 h11
                            split at h
                            · rename_i a12 h12
                              split at h
                              · rename_i a13 h13
                                cases h
                                exact ⟨_, _, _, _, _, _, _, _, _, _, _, _, _, _, rfl, h0, h1, h2, h3, h4, h5, h6, h7, h8, h9, h10, h11, h12, h13⟩
                              · cases h
                            · cases h
                          · cases h
                        · cases h
                      · cases h
                    · cases h
                  · cases h
                · cases h
              · cases h
            · cases h
          · cases h
        · cases h
      · cases h
    · cases h
  · cases h
theorem law54 : CodAt C 54 := ⟨fun x => by show ((enc3 x.Kind).cells C ++ ((enc45 x.From).cells C ++ ((enc45 x.To).cells C ++ ((enc47 x.Ballot).cells C ++ ((enc2 x.Slot).cells C ++ ((enc48 x.List_).cells C ++ ((enc53 x.Entry).cells C ++ ((enc2 x.Number).cells C ++ ((enc24 x.Vector_).cells C ++ ((enc2 x.Clock).cells C ++ ((enc3 x.Origin).cells C ++ ((enc28 x.Ops).cells C ++ ((enc26 x.Epoch).cells C ++ ((enc51 x.Part).cells C ++ [])))))))))))))) = cel54 x; unfold cel54; exact congr (congrArg (· ++ ·) (law3.cel x.Kind)) (congr (congrArg (· ++ ·) (law45.cel x.From)) (congr (congrArg (· ++ ·) (law45.cel x.To)) (congr (congrArg (· ++ ·) (law47.cel x.Ballot)) (congr (congrArg (· ++ ·) (law2.cel x.Slot)) (congr (congrArg (· ++ ·) (law48.cel x.List_)) (congr (congrArg (· ++ ·) (law53.cel x.Entry)) (congr (congrArg (· ++ ·) (law2.cel x.Number)) (congr (congrArg (· ++ ·) (law24.cel x.Vector_)) (congr (congrArg (· ++ ·) (law2.cel x.Clock)) (congr (congrArg (· ++ ·) (law3.cel x.Origin)) (congr (congrArg (· ++ ·) (law28.cel x.Ops)) (congr (congrArg (· ++ ·) (law26.cel x.Epoch)) (congr (congrArg (· ++ ·) (law51.cel x.Part)) (rfl)))))))))))))), fun x => by show ((cel3 x.Kind ++ (cel45 x.From ++ (cel45 x.To ++ (cel47 x.Ballot ++ (cel2 x.Slot ++ (cel48 x.List_ ++ (cel53 x.Entry ++ (cel2 x.Number ++ (cel24 x.Vector_ ++ (cel2 x.Clock ++ (cel3 x.Origin ++ (cel28 x.Ops ++ (cel26 x.Epoch ++ (cel51 x.Part ++ []))))))))))))))).length = 106; rw [List.length_append, List.length_append, List.length_append, List.length_append, List.length_append, List.length_append, List.length_append, List.length_append, List.length_append, List.length_append, List.length_append, List.length_append, List.length_append, List.length_append]; have e0 : (cel3 x.Kind).length = 1 := law3.len x.Kind; have e1 : (cel45 x.From).length = 2 := law45.len x.From; have e2 : (cel45 x.To).length = 2 := law45.len x.To; have e3 : (cel47 x.Ballot).length = 2 := law47.len x.Ballot; have e4 : (cel2 x.Slot).length = 1 := law2.len x.Slot; have e5 : (cel48 x.List_).length = 1 := law48.len x.List_; have e6 : (cel53 x.Entry).length = 56 := law53.len x.Entry; have e7 : (cel2 x.Number).length = 1 := law2.len x.Number; have e8 : (cel24 x.Vector_).length = 8 := law24.len x.Vector_; have e9 : (cel2 x.Clock).length = 1 := law2.len x.Clock; have e10 : (cel3 x.Origin).length = 1 := law3.len x.Origin; have e11 : (cel28 x.Ops).length = 1 := law28.len x.Ops; have e12 : (cel26 x.Epoch).length = 25 := law26.len x.Epoch; have e13 : (cel51 x.Part).length = 4 := law51.len x.Part; simp only [e0, e1, e2, e3, e4, e5, e6, e7, e8, e9, e10, e11, e12, e13, List.length_nil], fun x a h => by obtain ⟨x0, x1, x2, x3, x4, x5, x6, x7, x8, x9, x10, x11, x12, x13, rfl, h0, h1, h2, h3, h4, h5, h6, h7, h8, h9, h10, h11, h12, h13⟩ := decx54 (show dec54 x = some a from h); exact CW.append (law3.dec _ _ h0) (CW.append (law45.dec _ _ h1) (CW.append (law45.dec _ _ h2) (CW.append (law47.dec _ _ h3) (CW.append (law2.dec _ _ h4) (CW.append (law48.dec _ _ h5) (CW.append (law53.dec _ _ h6) (CW.append (law2.dec _ _ h7) (CW.append (law24.dec _ _ h8) (CW.append (law2.dec _ _ h9) (CW.append (law3.dec _ _ h10) (CW.append (law28.dec _ _ h11) (CW.append (law26.dec _ _ h12) (CW.append (law51.dec _ _ h13) (CW.refl [])))))))))))))), fun x => by show (((enc3 x.Kind).ok && ((enc45 x.From).ok && ((enc45 x.To).ok && ((enc47 x.Ballot).ok && ((enc2 x.Slot).ok && ((enc48 x.List_).ok && ((enc53 x.Entry).ok && ((enc2 x.Number).ok && ((enc24 x.Vector_).ok && ((enc2 x.Clock).ok && ((enc3 x.Origin).ok && ((enc28 x.Ops).ok && ((enc26 x.Epoch).ok && ((enc51 x.Part).ok && true))))))))))))))) = true; simp only [show (enc3 x.Kind).ok = true from law3.ok _, show (enc45 x.From).ok = true from law45.ok _, show (enc45 x.To).ok = true from law45.ok _, show (enc47 x.Ballot).ok = true from law47.ok _, show (enc2 x.Slot).ok = true from law2.ok _, show (enc48 x.List_).ok = true from law48.ok _, show (enc53 x.Entry).ok = true from law53.ok _, show (enc2 x.Number).ok = true from law2.ok _, show (enc24 x.Vector_).ok = true from law24.ok _, show (enc2 x.Clock).ok = true from law2.ok _, show (enc3 x.Origin).ok = true from law3.ok _, show (enc28 x.Ops).ok = true from law28.ok _, show (enc26 x.Epoch).ok = true from law26.ok _, show (enc51 x.Part).ok = true from law51.ok _, Bool.and_self], fun x a h => by obtain ⟨x0, x1, x2, x3, x4, x5, x6, x7, x8, x9, x10, x11, x12, x13, rfl, h0, h1, h2, h3, h4, h5, h6, h7, h8, h9, h10, h11, h12, h13⟩ := decx54 (show dec54 x = some a from h); show ((x0.ok && (x1.ok && (x2.ok && (x3.ok && (x4.ok && (x5.ok && (x6.ok && (x7.ok && (x8.ok && (x9.ok && (x10.ok && (x11.ok && (x12.ok && (x13.ok && true))))))))))))))) = true; simp only [law3.decok _ _ h0, law45.decok _ _ h1, law45.decok _ _ h2, law47.decok _ _ h3, law2.decok _ _ h4, law48.decok _ _ h5, law53.decok _ _ h6, law2.decok _ _ h7, law24.decok _ _ h8, law2.decok _ _ h9, law3.decok _ _ h10, law28.decok _ _ h11, law26.decok _ _ h12, law51.decok _ _ h13, Bool.and_self], fun x a h => by obtain ⟨x0, x1, x2, x3, x4, x5, x6, x7, x8, x9, x10, x11, x12, x13, rfl, h0, h1, h2, h3, h4, h5, h6, h7, h8, h9, h10, h11, h12, h13⟩ := decx54 (show dec54 x = some a from h); rfl, fun x => by show ((cel3 x.Kind ++ (cel45 x.From ++ (cel45 x.To ++ (cel47 x.Ballot ++ (cel2 x.Slot ++ (cel48 x.List_ ++ (cel53 x.Entry ++ (cel2 x.Number ++ (cel24 x.Vector_ ++ (cel2 x.Clock ++ (cel3 x.Origin ++ (cel28 x.Ops ++ (cel26 x.Epoch ++ (cel51 x.Part ++ []))))))))))))))).all AV.one = true; simp only [List.all_append, List.all_nil, show (cel3 x.Kind).all AV.one = true from law3.one _, show (cel45 x.From).all AV.one = true from law45.one _, show (cel45 x.To).all AV.one = true from law45.one _, show (cel47 x.Ballot).all AV.one = true from law47.one _, show (cel2 x.Slot).all AV.one = true from law2.one _, show (cel48 x.List_).all AV.one = true from law48.one _, show (cel53 x.Entry).all AV.one = true from law53.one _, show (cel2 x.Number).all AV.one = true from law2.one _, show (cel24 x.Vector_).all AV.one = true from law24.one _, show (cel2 x.Clock).all AV.one = true from law2.one _, show (cel3 x.Origin).all AV.one = true from law3.one _, show (cel28 x.Ops).all AV.one = true from law28.one _, show (cel26 x.Epoch).all AV.one = true from law26.one _, show (cel51 x.Part).all AV.one = true from law51.one _, Bool.and_self], fun x => noids_app (law3.noid x.Kind) (noids_app (law45.noid x.From) (noids_app (law45.noid x.To) (noids_app (law47.noid x.Ballot) (noids_app (law2.noid x.Slot) (noids_app (law48.noid x.List_) (noids_app (law53.noid x.Entry) (noids_app (law2.noid x.Number) (noids_app (law24.noid x.Vector_) (noids_app (law2.noid x.Clock) (noids_app (law3.noid x.Origin) (noids_app (law28.noid x.Ops) (noids_app (law26.noid x.Epoch) (noids_app (law51.noid x.Part) (trivial)))))))))))))), (fun ks h => nomatch h), (fun l s h => nomatch h), (fun s l h => nomatch h)⟩
theorem decx55 {x : TV τ} {a : GMsg} (h : dec55 x = some a) : ∃ x0 x1 x2 x3 x4 x5 x6 x7 x8 x9 x10 x11 x12 x13, x = .agg [x0, x1, x2, x3, x4, x5, x6, x7, x8, x9, x10, x11, x12, x13] ∧ dec3 x0 = some a.Kind ∧ dec45 x1 = some a.From ∧ dec45 x2 = some a.To ∧ dec47 x3 = some a.Ballot ∧ dec2 x4 = some a.Slot ∧ dec48 x5 = some a.List_ ∧ dec53 x6 = some a.Entry ∧ dec2 x7 = some a.Number ∧ dec24 x8 = some a.Vector_ ∧ dec2 x9 = some a.Clock ∧ dec3 x10 = some a.Origin ∧ dec28 x11 = some a.Ops ∧ dec26 x12 = some a.Epoch ∧ dec51 x13 = some a.Part := by
  unfold dec55 at h
  split at h
  · rename_i x0 x1 x2 x3 x4 x5 x6 x7 x8 x9 x10 x11 x12 x13
    split at h
    · rename_i a0 h0
      split at h
      · rename_i a1 h1
        split at h
        · rename_i a2 h2
          split at h
          · rename_i a3 h3
            split at h
            · rename_i a4 h4
              split at h
              · rename_i a5 h5
                split at h
                · rename_i a6 h6
                  split at h
                  · rename_i a7 h7
                    split at h
                    · rename_i a8 h8
                      split at h
                      · rename_i a9 h9
                        split at h
                        · rename_i a10 h10
                          split at h
                          · rename_i a11 h11
                            split at h
                            · rename_i a12 h12
                              split at h
                              · rename_i a13 h13
                                cases h
                                exact ⟨_, _, _, _, _, _, _, _, _, _, _, _, _, _, rfl, h0, h1, h2, h3, h4, h5, h6, h7, h8, h9, h10, h11, h12, h13⟩
                              · cases h
                            · cases h
                          · cases h
                        · cases h
                      · cases h
                    · cases h
                  · cases h
                · cases h
              · cases h
            · cases h
          · cases h
        · cases h
      · cases h
    · cases h
  · cases h
theorem law55 : CodAt C 55 := ⟨fun x => by show ((enc3 x.Kind).cells C ++ ((enc45 x.From).cells C ++ ((enc45 x.To).cells C ++ ((enc47 x.Ballot).cells C ++ ((enc2 x.Slot).cells C ++ ((enc48 x.List_).cells C ++ ((enc53 x.Entry).cells C ++ ((enc2 x.Number).cells C ++ ((enc24 x.Vector_).cells C ++ ((enc2 x.Clock).cells C ++ ((enc3 x.Origin).cells C ++ ((enc28 x.Ops).cells C ++ ((enc26 x.Epoch).cells C ++ ((enc51 x.Part).cells C ++ [])))))))))))))) = cel55 x; unfold cel55; exact congr (congrArg (· ++ ·) (law3.cel x.Kind)) (congr (congrArg (· ++ ·) (law45.cel x.From)) (congr (congrArg (· ++ ·) (law45.cel x.To)) (congr (congrArg (· ++ ·) (law47.cel x.Ballot)) (congr (congrArg (· ++ ·) (law2.cel x.Slot)) (congr (congrArg (· ++ ·) (law48.cel x.List_)) (congr (congrArg (· ++ ·) (law53.cel x.Entry)) (congr (congrArg (· ++ ·) (law2.cel x.Number)) (congr (congrArg (· ++ ·) (law24.cel x.Vector_)) (congr (congrArg (· ++ ·) (law2.cel x.Clock)) (congr (congrArg (· ++ ·) (law3.cel x.Origin)) (congr (congrArg (· ++ ·) (law28.cel x.Ops)) (congr (congrArg (· ++ ·) (law26.cel x.Epoch)) (congr (congrArg (· ++ ·) (law51.cel x.Part)) (rfl)))))))))))))), fun x => by show ((cel3 x.Kind ++ (cel45 x.From ++ (cel45 x.To ++ (cel47 x.Ballot ++ (cel2 x.Slot ++ (cel48 x.List_ ++ (cel53 x.Entry ++ (cel2 x.Number ++ (cel24 x.Vector_ ++ (cel2 x.Clock ++ (cel3 x.Origin ++ (cel28 x.Ops ++ (cel26 x.Epoch ++ (cel51 x.Part ++ []))))))))))))))).length = 106; rw [List.length_append, List.length_append, List.length_append, List.length_append, List.length_append, List.length_append, List.length_append, List.length_append, List.length_append, List.length_append, List.length_append, List.length_append, List.length_append, List.length_append]; have e0 : (cel3 x.Kind).length = 1 := law3.len x.Kind; have e1 : (cel45 x.From).length = 2 := law45.len x.From; have e2 : (cel45 x.To).length = 2 := law45.len x.To; have e3 : (cel47 x.Ballot).length = 2 := law47.len x.Ballot; have e4 : (cel2 x.Slot).length = 1 := law2.len x.Slot; have e5 : (cel48 x.List_).length = 1 := law48.len x.List_; have e6 : (cel53 x.Entry).length = 56 := law53.len x.Entry; have e7 : (cel2 x.Number).length = 1 := law2.len x.Number; have e8 : (cel24 x.Vector_).length = 8 := law24.len x.Vector_; have e9 : (cel2 x.Clock).length = 1 := law2.len x.Clock; have e10 : (cel3 x.Origin).length = 1 := law3.len x.Origin; have e11 : (cel28 x.Ops).length = 1 := law28.len x.Ops; have e12 : (cel26 x.Epoch).length = 25 := law26.len x.Epoch; have e13 : (cel51 x.Part).length = 4 := law51.len x.Part; simp only [e0, e1, e2, e3, e4, e5, e6, e7, e8, e9, e10, e11, e12, e13, List.length_nil], fun x a h => by obtain ⟨x0, x1, x2, x3, x4, x5, x6, x7, x8, x9, x10, x11, x12, x13, rfl, h0, h1, h2, h3, h4, h5, h6, h7, h8, h9, h10, h11, h12, h13⟩ := decx55 (show dec55 x = some a from h); exact CW.append (law3.dec _ _ h0) (CW.append (law45.dec _ _ h1) (CW.append (law45.dec _ _ h2) (CW.append (law47.dec _ _ h3) (CW.append (law2.dec _ _ h4) (CW.append (law48.dec _ _ h5) (CW.append (law53.dec _ _ h6) (CW.append (law2.dec _ _ h7) (CW.append (law24.dec _ _ h8) (CW.append (law2.dec _ _ h9) (CW.append (law3.dec _ _ h10) (CW.append (law28.dec _ _ h11) (CW.append (law26.dec _ _ h12) (CW.append (law51.dec _ _ h13) (CW.refl [])))))))))))))), fun x => by show (((enc3 x.Kind).ok && ((enc45 x.From).ok && ((enc45 x.To).ok && ((enc47 x.Ballot).ok && ((enc2 x.Slot).ok && ((enc48 x.List_).ok && ((enc53 x.Entry).ok && ((enc2 x.Number).ok && ((enc24 x.Vector_).ok && ((enc2 x.Clock).ok && ((enc3 x.Origin).ok && ((enc28 x.Ops).ok && ((enc26 x.Epoch).ok && ((enc51 x.Part).ok && true))))))))))))))) = true; simp only [show (enc3 x.Kind).ok = true from law3.ok _, show (enc45 x.From).ok = true from law45.ok _, show (enc45 x.To).ok = true from law45.ok _, show (enc47 x.Ballot).ok = true from law47.ok _, show (enc2 x.Slot).ok = true from law2.ok _, show (enc48 x.List_).ok = true from law48.ok _, show (enc53 x.Entry).ok = true from law53.ok _, show (enc2 x.Number).ok = true from law2.ok _, show (enc24 x.Vector_).ok = true from law24.ok _, show (enc2 x.Clock).ok = true from law2.ok _, show (enc3 x.Origin).ok = true from law3.ok _, show (enc28 x.Ops).ok = true from law28.ok _, show (enc26 x.Epoch).ok = true from law26.ok _, show (enc51 x.Part).ok = true from law51.ok _, Bool.and_self], fun x a h => by obtain ⟨x0, x1, x2, x3, x4, x5, x6, x7, x8, x9, x10, x11, x12, x13, rfl, h0, h1, h2, h3, h4, h5, h6, h7, h8, h9, h10, h11, h12, h13⟩ := decx55 (show dec55 x = some a from h); show ((x0.ok && (x1.ok && (x2.ok && (x3.ok && (x4.ok && (x5.ok && (x6.ok && (x7.ok && (x8.ok && (x9.ok && (x10.ok && (x11.ok && (x12.ok && (x13.ok && true))))))))))))))) = true; simp only [law3.decok _ _ h0, law45.decok _ _ h1, law45.decok _ _ h2, law47.decok _ _ h3, law2.decok _ _ h4, law48.decok _ _ h5, law53.decok _ _ h6, law2.decok _ _ h7, law24.decok _ _ h8, law2.decok _ _ h9, law3.decok _ _ h10, law28.decok _ _ h11, law26.decok _ _ h12, law51.decok _ _ h13, Bool.and_self], fun x a h => by obtain ⟨x0, x1, x2, x3, x4, x5, x6, x7, x8, x9, x10, x11, x12, x13, rfl, h0, h1, h2, h3, h4, h5, h6, h7, h8, h9, h10, h11, h12, h13⟩ := decx55 (show dec55 x = some a from h); rfl, fun x => by show ((cel3 x.Kind ++ (cel45 x.From ++ (cel45 x.To ++ (cel47 x.Ballot ++ (cel2 x.Slot ++ (cel48 x.List_ ++ (cel53 x.Entry ++ (cel2 x.Number ++ (cel24 x.Vector_ ++ (cel2 x.Clock ++ (cel3 x.Origin ++ (cel28 x.Ops ++ (cel26 x.Epoch ++ (cel51 x.Part ++ []))))))))))))))).all AV.one = true; simp only [List.all_append, List.all_nil, show (cel3 x.Kind).all AV.one = true from law3.one _, show (cel45 x.From).all AV.one = true from law45.one _, show (cel45 x.To).all AV.one = true from law45.one _, show (cel47 x.Ballot).all AV.one = true from law47.one _, show (cel2 x.Slot).all AV.one = true from law2.one _, show (cel48 x.List_).all AV.one = true from law48.one _, show (cel53 x.Entry).all AV.one = true from law53.one _, show (cel2 x.Number).all AV.one = true from law2.one _, show (cel24 x.Vector_).all AV.one = true from law24.one _, show (cel2 x.Clock).all AV.one = true from law2.one _, show (cel3 x.Origin).all AV.one = true from law3.one _, show (cel28 x.Ops).all AV.one = true from law28.one _, show (cel26 x.Epoch).all AV.one = true from law26.one _, show (cel51 x.Part).all AV.one = true from law51.one _, Bool.and_self], fun x => noids_app (law3.noid x.Kind) (noids_app (law45.noid x.From) (noids_app (law45.noid x.To) (noids_app (law47.noid x.Ballot) (noids_app (law2.noid x.Slot) (noids_app (law48.noid x.List_) (noids_app (law53.noid x.Entry) (noids_app (law2.noid x.Number) (noids_app (law24.noid x.Vector_) (noids_app (law2.noid x.Clock) (noids_app (law3.noid x.Origin) (noids_app (law28.noid x.Ops) (noids_app (law26.noid x.Epoch) (noids_app (law51.noid x.Part) (trivial)))))))))))))), (fun ks h => nomatch h), (fun l s h => nomatch h), (fun s l h => nomatch h)⟩
theorem law60 : CodAt C 60 := ⟨fun x => rfl, fun x => rfl, fun x a h => (dSl_cw (C := C) (show dSl 3 x = some a from h)).1, fun x => rfl, fun x a h => (dSl_cw (C := C) (show dSl 3 x = some a from h)).2.1, fun x a h => (dSl_cw (C := C) (show dSl 3 x = some a from h)).2.2, fun a => rfl, fun a => noids_one (NoId.asl fun cs hc => by obtain ⟨y, _, rfl⟩ := List.mem_map.1 hc; exact law3.noid y), (fun ks h => nomatch h), (fun l s h => nomatch h), (fun s l h => nomatch h)⟩
theorem law65 : CodAt C 65 := ⟨fun x => rfl, fun x => rfl, fun x a h => (dSl_cw (C := C) (show dSl 55 x = some a from h)).1, fun x => rfl, fun x a h => (dSl_cw (C := C) (show dSl 55 x = some a from h)).2.1, fun x a h => (dSl_cw (C := C) (show dSl 55 x = some a from h)).2.2, fun a => rfl, fun a => noids_one (NoId.asl fun cs hc => by obtain ⟨y, _, rfl⟩ := List.mem_map.1 hc; exact law55.noid y), (fun ks h => nomatch h), (fun l s h => nomatch h), (fun s l h => nomatch h)⟩
theorem decx97 {x : TV τ} {a : GTreeNode} (h : dec97 x = some a) : ∃ x0 x1 x2 x3, x = .agg [x0, x1, x2, x3] ∧ dec2 x0 = some a.Node ∧ dec2 x1 = some a.Parent ∧ dec9 x2 = some a.Name ∧ dec96 x3 = some a.Attrs := by
  unfold dec97 at h
  split at h
  · rename_i x0 x1 x2 x3
    split at h
    · rename_i a0 h0
      split at h
      · rename_i a1 h1
        split at h
        · rename_i a2 h2
          split at h
          · rename_i a3 h3
            cases h
            exact ⟨_, _, _, _, rfl, h0, h1, h2, h3⟩
          · cases h
        · cases h
      · cases h
    · cases h
  · cases h
theorem law97 : CodAt C 97 := ⟨fun x => by show ((enc2 x.Node).cells C ++ ((enc2 x.Parent).cells C ++ ((enc9 x.Name).cells C ++ ((enc96 x.Attrs).cells C ++ [])))) = cel97 x; unfold cel97; exact congr (congrArg (· ++ ·) (law2.cel x.Node)) (congr (congrArg (· ++ ·) (law2.cel x.Parent)) (congr (congrArg (· ++ ·) (law9.cel x.Name)) (congr (congrArg (· ++ ·) (law96.cel x.Attrs)) (rfl)))), fun x => by show ((cel2 x.Node ++ (cel2 x.Parent ++ (cel9 x.Name ++ (cel96 x.Attrs ++ []))))).length = 4; rw [List.length_append, List.length_append, List.length_append, List.length_append]; have e0 : (cel2 x.Node).length = 1 := law2.len x.Node; have e1 : (cel2 x.Parent).length = 1 := law2.len x.Parent; have e2 : (cel9 x.Name).length = 1 := law9.len x.Name; have e3 : (cel96 x.Attrs).length = 1 := law96.len x.Attrs; simp only [e0, e1, e2, e3, List.length_nil], fun x a h => by obtain ⟨x0, x1, x2, x3, rfl, h0, h1, h2, h3⟩ := decx97 (show dec97 x = some a from h); exact CW.append (law2.dec _ _ h0) (CW.append (law2.dec _ _ h1) (CW.append (law9.dec _ _ h2) (CW.append (law96.dec _ _ h3) (CW.refl [])))), fun x => by show (((enc2 x.Node).ok && ((enc2 x.Parent).ok && ((enc9 x.Name).ok && ((enc96 x.Attrs).ok && true))))) = true; simp only [show (enc2 x.Node).ok = true from law2.ok _, show (enc2 x.Parent).ok = true from law2.ok _, show (enc9 x.Name).ok = true from law9.ok _, show (enc96 x.Attrs).ok = true from law96.ok _, Bool.and_self], fun x a h => by obtain ⟨x0, x1, x2, x3, rfl, h0, h1, h2, h3⟩ := decx97 (show dec97 x = some a from h); show ((x0.ok && (x1.ok && (x2.ok && (x3.ok && true))))) = true; simp only [law2.decok _ _ h0, law2.decok _ _ h1, law9.decok _ _ h2, law96.decok _ _ h3, Bool.and_self], fun x a h => by obtain ⟨x0, x1, x2, x3, rfl, h0, h1, h2, h3⟩ := decx97 (show dec97 x = some a from h); rfl, fun x => by show ((cel2 x.Node ++ (cel2 x.Parent ++ (cel9 x.Name ++ (cel96 x.Attrs ++ []))))).all AV.one = true; simp only [List.all_append, List.all_nil, show (cel2 x.Node).all AV.one = true from law2.one _, show (cel2 x.Parent).all AV.one = true from law2.one _, show (cel9 x.Name).all AV.one = true from law9.one _, show (cel96 x.Attrs).all AV.one = true from law96.one _, Bool.and_self], fun x => noids_app (law2.noid x.Node) (noids_app (law2.noid x.Parent) (noids_app (law9.noid x.Name) (noids_app (law96.noid x.Attrs) (trivial)))), (fun ks h => nomatch h), (fun l s h => nomatch h), (fun s l h => nomatch h)⟩
theorem decx100 {x : TV τ} {a : GSlotted} (h : dec100 x = some a) : ∃ x0 x1 x2, x = .agg [x0, x1, x2] ∧ dec2 x0 = some a.Slot ∧ dec47 x1 = some a.Ballot ∧ dec53 x2 = some a.Entry := by
  unfold dec100 at h
  split at h
  · rename_i x0 x1 x2
    split at h
    · rename_i a0 h0
      split at h
      · rename_i a1 h1
        split at h
        · rename_i a2 h2
          cases h
          exact ⟨_, _, _, rfl, h0, h1, h2⟩
        · cases h
      · cases h
    · cases h
  · cases h
theorem law100 : CodAt C 100 := ⟨fun x => by show ((enc2 x.Slot).cells C ++ ((enc47 x.Ballot).cells C ++ ((enc53 x.Entry).cells C ++ []))) = cel100 x; unfold cel100; exact congr (congrArg (· ++ ·) (law2.cel x.Slot)) (congr (congrArg (· ++ ·) (law47.cel x.Ballot)) (congr (congrArg (· ++ ·) (law53.cel x.Entry)) (rfl))), fun x => by show ((cel2 x.Slot ++ (cel47 x.Ballot ++ (cel53 x.Entry ++ [])))).length = 59; rw [List.length_append, List.length_append, List.length_append]; have e0 : (cel2 x.Slot).length = 1 := law2.len x.Slot; have e1 : (cel47 x.Ballot).length = 2 := law47.len x.Ballot; have e2 : (cel53 x.Entry).length = 56 := law53.len x.Entry; simp only [e0, e1, e2, List.length_nil], fun x a h => by obtain ⟨x0, x1, x2, rfl, h0, h1, h2⟩ := decx100 (show dec100 x = some a from h); exact CW.append (law2.dec _ _ h0) (CW.append (law47.dec _ _ h1) (CW.append (law53.dec _ _ h2) (CW.refl []))), fun x => by show (((enc2 x.Slot).ok && ((enc47 x.Ballot).ok && ((enc53 x.Entry).ok && true)))) = true; simp only [show (enc2 x.Slot).ok = true from law2.ok _, show (enc47 x.Ballot).ok = true from law47.ok _, show (enc53 x.Entry).ok = true from law53.ok _, Bool.and_self], fun x a h => by obtain ⟨x0, x1, x2, rfl, h0, h1, h2⟩ := decx100 (show dec100 x = some a from h); show ((x0.ok && (x1.ok && (x2.ok && true)))) = true; simp only [law2.decok _ _ h0, law47.decok _ _ h1, law53.decok _ _ h2, Bool.and_self], fun x a h => by obtain ⟨x0, x1, x2, rfl, h0, h1, h2⟩ := decx100 (show dec100 x = some a from h); rfl, fun x => by show ((cel2 x.Slot ++ (cel47 x.Ballot ++ (cel53 x.Entry ++ [])))).all AV.one = true; simp only [List.all_append, List.all_nil, show (cel2 x.Slot).all AV.one = true from law2.one _, show (cel47 x.Ballot).all AV.one = true from law47.one _, show (cel53 x.Entry).all AV.one = true from law53.one _, Bool.and_self], fun x => noids_app (law2.noid x.Slot) (noids_app (law47.noid x.Ballot) (noids_app (law53.noid x.Entry) (trivial))), (fun ks h => nomatch h), (fun l s h => nomatch h), (fun s l h => nomatch h)⟩
theorem law102 : CodAt C 102 := ⟨fun x => rfl, fun x => rfl, fun x a h => (dSl_cw (C := C) (show dSl 9 x = some a from h)).1, fun x => rfl, fun x a h => (dSl_cw (C := C) (show dSl 9 x = some a from h)).2.1, fun x a h => (dSl_cw (C := C) (show dSl 9 x = some a from h)).2.2, fun a => rfl, fun a => noids_one (NoId.asl fun cs hc => by obtain ⟨y, _, rfl⟩ := List.mem_map.1 hc; exact law9.noid y), (fun ks h => nomatch h), (fun l s h => nomatch h), (fun s l h => nomatch h)⟩
theorem law107 : CodAt C 107 := ⟨fun x => rfl, fun x => rfl, fun x a h => (dSl_cw (C := C) (show dSl 45 x = some a from h)).1, fun x => rfl, fun x a h => (dSl_cw (C := C) (show dSl 45 x = some a from h)).2.1, fun x a h => (dSl_cw (C := C) (show dSl 45 x = some a from h)).2.2, fun a => rfl, fun a => noids_one (NoId.asl fun cs hc => by obtain ⟨y, _, rfl⟩ := List.mem_map.1 hc; exact law45.noid y), (fun ks h => nomatch h), (fun l s h => nomatch h), (fun s l h => nomatch h)⟩
theorem law115 : CodAt C 115 := ⟨fun x => rfl, fun x => rfl, fun x a h => (dSl_cw (C := C) (show dSl 24 x = some a from h)).1, fun x => rfl, fun x a h => (dSl_cw (C := C) (show dSl 24 x = some a from h)).2.1, fun x a h => (dSl_cw (C := C) (show dSl 24 x = some a from h)).2.2, fun a => rfl, fun a => noids_one (NoId.asl fun cs hc => by obtain ⟨y, _, rfl⟩ := List.mem_map.1 hc; exact law24.noid y), (fun ks h => nomatch h), (fun l s h => nomatch h), (fun s l h => nomatch h)⟩
theorem law126 : CodAt C 126 := ⟨fun x => rfl, fun x => rfl, fun x a h => (dSl_cw (C := C) (show dSl 2 x = some a from h)).1, fun x => rfl, fun x a h => (dSl_cw (C := C) (show dSl 2 x = some a from h)).2.1, fun x a h => (dSl_cw (C := C) (show dSl 2 x = some a from h)).2.2, fun a => rfl, fun a => noids_one (NoId.asl fun cs hc => by obtain ⟨y, _, rfl⟩ := List.mem_map.1 hc; exact law2.noid y), (fun ks h => nomatch h), (fun l s h => nomatch h), (fun s l h => nomatch h)⟩
theorem law138 : CodAt C 138 := ⟨fun x => rfl, fun x => rfl, fun x a h => (dSl_cw (C := C) (show dSl 4 x = some a from h)).1, fun x => rfl, fun x a h => (dSl_cw (C := C) (show dSl 4 x = some a from h)).2.1, fun x a h => (dSl_cw (C := C) (show dSl 4 x = some a from h)).2.2, fun a => rfl, fun a => noids_one (NoId.asl fun cs hc => by obtain ⟨y, _, rfl⟩ := List.mem_map.1 hc; exact law4.noid y), (fun ks h => nomatch h), (fun l s h => nomatch h), (fun s l h => nomatch h)⟩
theorem law150 : CodAt C 150 := ⟨fun x => rfl, fun x => rfl, fun x a h => (dSl_cw (C := C) (show dSl 27 x = some a from h)).1, fun x => rfl, fun x a h => (dSl_cw (C := C) (show dSl 27 x = some a from h)).2.1, fun x a h => (dSl_cw (C := C) (show dSl 27 x = some a from h)).2.2, fun a => rfl, fun a => noids_one (NoId.asl fun cs hc => by obtain ⟨y, _, rfl⟩ := List.mem_map.1 hc; exact law27.noid y), (fun ks h => nomatch h), (fun l s h => nomatch h), (fun s l h => nomatch h)⟩
theorem decx151 {x : TV τ} {a : Gorchardref12_Tree} (h : dec151 x = some a) : ∃ x0 x1, x = .agg [x0, x1] ∧ dec27 x0 = some a.nodes ∧ dec150 x1 = some a.was := by
  unfold dec151 at h
  split at h
  · rename_i x0 x1
    split at h
    · rename_i a0 h0
      split at h
      · rename_i a1 h1
        cases h
        exact ⟨_, _, rfl, h0, h1⟩
      · cases h
    · cases h
  · cases h
theorem law151 : CodAt C 151 := ⟨fun x => by show ((enc27 x.nodes).cells C ++ ((enc150 x.was).cells C ++ [])) = cel151 x; unfold cel151; exact congr (congrArg (· ++ ·) (law27.cel x.nodes)) (congr (congrArg (· ++ ·) (law150.cel x.was)) (rfl)), fun x => by show ((cel27 x.nodes ++ (cel150 x.was ++ []))).length = 2; rw [List.length_append, List.length_append]; have e0 : (cel27 x.nodes).length = 1 := law27.len x.nodes; have e1 : (cel150 x.was).length = 1 := law150.len x.was; simp only [e0, e1, List.length_nil], fun x a h => by obtain ⟨x0, x1, rfl, h0, h1⟩ := decx151 (show dec151 x = some a from h); exact CW.append (law27.dec _ _ h0) (CW.append (law150.dec _ _ h1) (CW.refl [])), fun x => by show (((enc27 x.nodes).ok && ((enc150 x.was).ok && true))) = true; simp only [show (enc27 x.nodes).ok = true from law27.ok _, show (enc150 x.was).ok = true from law150.ok _, Bool.and_self], fun x a h => by obtain ⟨x0, x1, rfl, h0, h1⟩ := decx151 (show dec151 x = some a from h); show ((x0.ok && (x1.ok && true))) = true; simp only [law27.decok _ _ h0, law150.decok _ _ h1, Bool.and_self], fun x a h => by obtain ⟨x0, x1, rfl, h0, h1⟩ := decx151 (show dec151 x = some a from h); rfl, fun x => by show ((cel27 x.nodes ++ (cel150 x.was ++ []))).all AV.one = true; simp only [List.all_append, List.all_nil, show (cel27 x.nodes).all AV.one = true from law27.one _, show (cel150 x.was).all AV.one = true from law150.one _, Bool.and_self], fun x => noids_app (law27.noid x.nodes) (noids_app (law150.noid x.was) (trivial)), (fun ks h => nomatch h), (fun l s h => nomatch h), (fun s l h => nomatch h)⟩
theorem decx152 {x : TV τ} {a : Gorchardref12_Tree} (h : dec152 x = some a) : ∃ x0 x1, x = .agg [x0, x1] ∧ dec27 x0 = some a.nodes ∧ dec150 x1 = some a.was := by
  unfold dec152 at h
  split at h
  · rename_i x0 x1
    split at h
    · rename_i a0 h0
      split at h
      · rename_i a1 h1
        cases h
        exact ⟨_, _, rfl, h0, h1⟩
      · cases h
    · cases h
  · cases h
theorem law152 : CodAt C 152 := ⟨fun x => by show ((enc27 x.nodes).cells C ++ ((enc150 x.was).cells C ++ [])) = cel152 x; unfold cel152; exact congr (congrArg (· ++ ·) (law27.cel x.nodes)) (congr (congrArg (· ++ ·) (law150.cel x.was)) (rfl)), fun x => by show ((cel27 x.nodes ++ (cel150 x.was ++ []))).length = 2; rw [List.length_append, List.length_append]; have e0 : (cel27 x.nodes).length = 1 := law27.len x.nodes; have e1 : (cel150 x.was).length = 1 := law150.len x.was; simp only [e0, e1, List.length_nil], fun x a h => by obtain ⟨x0, x1, rfl, h0, h1⟩ := decx152 (show dec152 x = some a from h); exact CW.append (law27.dec _ _ h0) (CW.append (law150.dec _ _ h1) (CW.refl [])), fun x => by show (((enc27 x.nodes).ok && ((enc150 x.was).ok && true))) = true; simp only [show (enc27 x.nodes).ok = true from law27.ok _, show (enc150 x.was).ok = true from law150.ok _, Bool.and_self], fun x a h => by obtain ⟨x0, x1, rfl, h0, h1⟩ := decx152 (show dec152 x = some a from h); show ((x0.ok && (x1.ok && true))) = true; simp only [law27.decok _ _ h0, law150.decok _ _ h1, Bool.and_self], fun x a h => by obtain ⟨x0, x1, rfl, h0, h1⟩ := decx152 (show dec152 x = some a from h); rfl, fun x => by show ((cel27 x.nodes ++ (cel150 x.was ++ []))).all AV.one = true; simp only [List.all_append, List.all_nil, show (cel27 x.nodes).all AV.one = true from law27.one _, show (cel150 x.was).all AV.one = true from law150.one _, Bool.and_self], fun x => noids_app (law27.noid x.nodes) (noids_app (law150.noid x.was) (trivial)), (fun ks h => nomatch h), (fun l s h => nomatch h), (fun s l h => nomatch h)⟩
theorem decx156 {x : TV τ} {a : GReply} (h : dec156 x = some a) : ∃ x0 x1 x2, x = .agg [x0, x1, x2] ∧ dec56 x0 = some a.Err ∧ dec41 x1 = some a.Stamp ∧ dec2 x2 = some a.Node := by
  unfold dec156 at h
  split at h
  · rename_i x0 x1 x2
    split at h
    · rename_i a0 h0
      split at h
      · rename_i a1 h1
        split at h
        · rename_i a2 h2
          cases h
          exact ⟨_, _, _, rfl, h0, h1, h2⟩
        · cases h
      · cases h
    · cases h
  · cases h
theorem law156 : CodAt C 156 := ⟨fun x => by show ((enc56 x.Err).cells C ++ ((enc41 x.Stamp).cells C ++ ((enc2 x.Node).cells C ++ []))) = cel156 x; unfold cel156; exact congr (congrArg (· ++ ·) (law56.cel x.Err)) (congr (congrArg (· ++ ·) (law41.cel x.Stamp)) (congr (congrArg (· ++ ·) (law2.cel x.Node)) (rfl))), fun x => by show ((cel56 x.Err ++ (cel41 x.Stamp ++ (cel2 x.Node ++ [])))).length = 4; rw [List.length_append, List.length_append, List.length_append]; have e0 : (cel56 x.Err).length = 1 := law56.len x.Err; have e1 : (cel41 x.Stamp).length = 2 := law41.len x.Stamp; have e2 : (cel2 x.Node).length = 1 := law2.len x.Node; simp only [e0, e1, e2, List.length_nil], fun x a h => by obtain ⟨x0, x1, x2, rfl, h0, h1, h2⟩ := decx156 (show dec156 x = some a from h); exact CW.append (law56.dec _ _ h0) (CW.append (law41.dec _ _ h1) (CW.append (law2.dec _ _ h2) (CW.refl []))), fun x => by show (((enc56 x.Err).ok && ((enc41 x.Stamp).ok && ((enc2 x.Node).ok && true)))) = true; simp only [show (enc56 x.Err).ok = true from law56.ok _, show (enc41 x.Stamp).ok = true from law41.ok _, show (enc2 x.Node).ok = true from law2.ok _, Bool.and_self], fun x a h => by obtain ⟨x0, x1, x2, rfl, h0, h1, h2⟩ := decx156 (show dec156 x = some a from h); show ((x0.ok && (x1.ok && (x2.ok && true)))) = true; simp only [law56.decok _ _ h0, law41.decok _ _ h1, law2.decok _ _ h2, Bool.and_self], fun x a h => by obtain ⟨x0, x1, x2, rfl, h0, h1, h2⟩ := decx156 (show dec156 x = some a from h); rfl, fun x => by show ((cel56 x.Err ++ (cel41 x.Stamp ++ (cel2 x.Node ++ [])))).all AV.one = true; simp only [List.all_append, List.all_nil, show (cel56 x.Err).all AV.one = true from law56.one _, show (cel41 x.Stamp).all AV.one = true from law41.one _, show (cel2 x.Node).all AV.one = true from law2.one _, Bool.and_self], fun x => noids_app (law56.noid x.Err) (noids_app (law41.noid x.Stamp) (noids_app (law2.noid x.Node) (trivial))), fun ks h a b => by have := eqCells_append (law56.kd _ rfl a.Err b.Err) (eqCells_append (law41.kd _ rfl a.Stamp b.Stamp) (eqCells_append (law2.kd _ rfl a.Node b.Node) ((show eqCells [] [] [] = some true from rfl)))); cases h; exact this, (fun l s h => nomatch h), (fun s l h => nomatch h)⟩
theorem decx158 {x : TV τ} {a : GRow} (h : dec158 x = some a) : ∃ x0 x1 x2, x = .agg [x0, x1, x2] ∧ dec2 x0 = some a.Session ∧ dec2 x1 = some a.Request ∧ dec157 x2 = some a.Reply := by
  unfold dec158 at h
  split at h
  · rename_i x0 x1 x2
    split at h
    · rename_i a0 h0
      split at h
      · rename_i a1 h1
        split at h
        · rename_i a2 h2
          cases h
          exact ⟨_, _, _, rfl, h0, h1, h2⟩
        · cases h
      · cases h
    · cases h
  · cases h
theorem law158 : CodAt C 158 := ⟨fun x => by show ((enc2 x.Session).cells C ++ ((enc2 x.Request).cells C ++ ((enc157 x.Reply).cells C ++ []))) = cel158 x; unfold cel158; exact congr (congrArg (· ++ ·) (law2.cel x.Session)) (congr (congrArg (· ++ ·) (law2.cel x.Request)) (congr (congrArg (· ++ ·) (law157.cel x.Reply)) (rfl))), fun x => by show ((cel2 x.Session ++ (cel2 x.Request ++ (cel157 x.Reply ++ [])))).length = 6; rw [List.length_append, List.length_append, List.length_append]; have e0 : (cel2 x.Session).length = 1 := law2.len x.Session; have e1 : (cel2 x.Request).length = 1 := law2.len x.Request; have e2 : (cel157 x.Reply).length = 4 := law157.len x.Reply; simp only [e0, e1, e2, List.length_nil], fun x a h => by obtain ⟨x0, x1, x2, rfl, h0, h1, h2⟩ := decx158 (show dec158 x = some a from h); exact CW.append (law2.dec _ _ h0) (CW.append (law2.dec _ _ h1) (CW.append (law157.dec _ _ h2) (CW.refl []))), fun x => by show (((enc2 x.Session).ok && ((enc2 x.Request).ok && ((enc157 x.Reply).ok && true)))) = true; simp only [show (enc2 x.Session).ok = true from law2.ok _, show (enc2 x.Request).ok = true from law2.ok _, show (enc157 x.Reply).ok = true from law157.ok _, Bool.and_self], fun x a h => by obtain ⟨x0, x1, x2, rfl, h0, h1, h2⟩ := decx158 (show dec158 x = some a from h); show ((x0.ok && (x1.ok && (x2.ok && true)))) = true; simp only [law2.decok _ _ h0, law2.decok _ _ h1, law157.decok _ _ h2, Bool.and_self], fun x a h => by obtain ⟨x0, x1, x2, rfl, h0, h1, h2⟩ := decx158 (show dec158 x = some a from h); rfl, fun x => by show ((cel2 x.Session ++ (cel2 x.Request ++ (cel157 x.Reply ++ [])))).all AV.one = true; simp only [List.all_append, List.all_nil, show (cel2 x.Session).all AV.one = true from law2.one _, show (cel2 x.Request).all AV.one = true from law2.one _, show (cel157 x.Reply).all AV.one = true from law157.one _, Bool.and_self], fun x => noids_app (law2.noid x.Session) (noids_app (law2.noid x.Request) (noids_app (law157.noid x.Reply) (trivial))), fun ks h a b => by have := eqCells_append (law2.kd _ rfl a.Session b.Session) (eqCells_append (law2.kd _ rfl a.Request b.Request) (eqCells_append (law157.kd _ rfl a.Reply b.Reply) ((show eqCells [] [] [] = some true from rfl)))); cases h; exact this, (fun l s h => nomatch h), (fun s l h => nomatch h)⟩
theorem decx168 {x : TV τ} {a : GAttr} (h : dec168 x = some a) : ∃ x0 x1, x = .agg [x0, x1] ∧ dec9 x0 = some a.Key ∧ dec9 x1 = some a.Value := by
  unfold dec168 at h
  split at h
  · rename_i x0 x1
    split at h
    · rename_i a0 h0
      split at h
      · rename_i a1 h1
        cases h
        exact ⟨_, _, rfl, h0, h1⟩
      · cases h
    · cases h
  · cases h
theorem law168 : CodAt C 168 := ⟨fun x => by show ((enc9 x.Key).cells C ++ ((enc9 x.Value).cells C ++ [])) = cel168 x; unfold cel168; exact congr (congrArg (· ++ ·) (law9.cel x.Key)) (congr (congrArg (· ++ ·) (law9.cel x.Value)) (rfl)), fun x => by show ((cel9 x.Key ++ (cel9 x.Value ++ []))).length = 2; rw [List.length_append, List.length_append]; have e0 : (cel9 x.Key).length = 1 := law9.len x.Key; have e1 : (cel9 x.Value).length = 1 := law9.len x.Value; simp only [e0, e1, List.length_nil], fun x a h => by obtain ⟨x0, x1, rfl, h0, h1⟩ := decx168 (show dec168 x = some a from h); exact CW.append (law9.dec _ _ h0) (CW.append (law9.dec _ _ h1) (CW.refl [])), fun x => by show (((enc9 x.Key).ok && ((enc9 x.Value).ok && true))) = true; simp only [show (enc9 x.Key).ok = true from law9.ok _, show (enc9 x.Value).ok = true from law9.ok _, Bool.and_self], fun x a h => by obtain ⟨x0, x1, rfl, h0, h1⟩ := decx168 (show dec168 x = some a from h); show ((x0.ok && (x1.ok && true))) = true; simp only [law9.decok _ _ h0, law9.decok _ _ h1, Bool.and_self], fun x a h => by obtain ⟨x0, x1, rfl, h0, h1⟩ := decx168 (show dec168 x = some a from h); rfl, fun x => by show ((cel9 x.Key ++ (cel9 x.Value ++ []))).all AV.one = true; simp only [List.all_append, List.all_nil, show (cel9 x.Key).all AV.one = true from law9.one _, show (cel9 x.Value).all AV.one = true from law9.one _, Bool.and_self], fun x => noids_app (law9.noid x.Key) (noids_app (law9.noid x.Value) (trivial)), fun ks h a b => by have := eqCells_append (law9.kd _ rfl a.Key b.Key) (eqCells_append (law9.kd _ rfl a.Value b.Value) ((show eqCells [] [] [] = some true from rfl))); cases h; exact this, (fun l s h => nomatch h), (fun s l h => nomatch h)⟩
theorem law175 : CodAt C 175 := ⟨fun x => rfl, fun x => rfl, fun x a h => by rw [dInt_x (show dInt .u64 x = some a from h)]; exact .refl _, fun x => rfl, fun x a h => by rw [dInt_x (show dInt .u64 x = some a from h)]; rfl, fun x a h => by rw [dInt_x (show dInt .u64 x = some a from h)]; rfl, fun a => rfl, fun a => noids_one (NoId.v _), fun ks h a b => by cases h; simp [eqCells, scal, C, celT, cel175, beqT, beq175], (fun l s h => nomatch h), (fun s l h => nomatch h)⟩
theorem law176 : CodAt C 176 := ⟨fun x => rfl, fun x => rfl, fun x a h => by rw [dInt_x (show dInt .u32 x = some a from h)]; exact .refl _, fun x => rfl, fun x a h => by rw [dInt_x (show dInt .u32 x = some a from h)]; rfl, fun x a h => by rw [dInt_x (show dInt .u32 x = some a from h)]; rfl, fun a => rfl, fun a => noids_one (NoId.v _), fun ks h a b => by cases h; simp [eqCells, scal, C, celT, cel176, beqT, beq176], (fun l s h => nomatch h), (fun s l h => nomatch h)⟩
theorem lawX {t : Nat} (h : celT t = fun _ => []) (h1 : encT t = fun _ => .agg []) (h2 : decT t = fun _ => none) (h3 : szT t = 0) (h4 : kdT t = none) (h5 : b2sT t = fun _ => none) (h6 : s2bT t = fun _ => none) : CodAt C t := by
  refine ⟨fun x => ?_, fun x => ?_, fun x a hx => ?_, fun x => ?_, fun x a hx => ?_, fun x a hx => ?_, fun a => ?_, fun a => ?_, fun ks hk => ?_, fun l s hl => ?_, fun s l hl => ?_⟩
  · show (encT t x).cells C = celT t x; rw [h, h1]; rfl
  · show (celT t x).length = szT t; rw [h, h3]; rfl
  · have e : decT t x = some a := hx; rw [h2] at e; cases e
  · show (encT t x).ok = true; rw [h1]; rfl
  · have e : decT t x = some a := hx; rw [h2] at e; cases e
  · have e : decT t x = some a := hx; rw [h2] at e; cases e
  · show (celT t a).all AV.one = true; rw [h]; rfl
  · show NoIds (celT t a); rw [h]; trivial
  · have e : kdT t = some ks := hk; rw [h4] at e; cases e
  · have e : b2sT t l = some s := hl; rw [h5] at e; cases e
  · have e : s2bT t s = some l := hl; rw [h6] at e; cases e
theorem lawOther : ∀ t : Nat, t ≠ 2 → t ≠ 3 → t ≠ 4 → t ≠ 5 → t ≠ 9 → t ≠ 12 → t ≠ 21 → t ≠ 22 → t ≠ 23 → t ≠ 24 → t ≠ 25 → t ≠ 26 → t ≠ 27 → t ≠ 28 → t ≠ 29 → t ≠ 30 → t ≠ 31 → t ≠ 32 → t ≠ 33 → t ≠ 34 → t ≠ 40 → t ≠ 41 → t ≠ 42 → t ≠ 43 → t ≠ 44 → t ≠ 45 → t ≠ 46 → t ≠ 47 → t ≠ 48 → t ≠ 49 → t ≠ 50 → t ≠ 51 → t ≠ 52 → t ≠ 53 → t ≠ 54 → t ≠ 55 → t ≠ 56 → t ≠ 60 → t ≠ 65 → t ≠ 96 → t ≠ 97 → t ≠ 98 → t ≠ 100 → t ≠ 101 → t ≠ 102 → t ≠ 107 → t ≠ 115 → t ≠ 126 → t ≠ 138 → t ≠ 150 → t ≠ 151 → t ≠ 152 → t ≠ 156 → t ≠ 157 → t ≠ 158 → t ≠ 159 → t ≠ 168 → t ≠ 169 → t ≠ 175 → t ≠ 176 → CodAt C t
  | t, h2, h3, h4, h5, h9, h12, h21, h22, h23, h24, h25, h26, h27, h28, h29, h30, h31, h32, h33, h34, h40, h41, h42, h43, h44, h45, h46, h47, h48, h49, h50, h51, h52, h53, h54, h55, h56, h60, h65, h96, h97, h98, h100, h101, h102, h107, h115, h126, h138, h150, h151, h152, h156, h157, h158, h159, h168, h169, h175, h176 => by
    apply lawX <;> first
      | (unfold celT; split <;> first | rfl | contradiction | (exfalso; omega))
      | (unfold encT; split <;> first | rfl | contradiction | (exfalso; omega))
      | (unfold decT; split <;> first | rfl | contradiction | (exfalso; omega))
      | (unfold szT; split <;> first | rfl | contradiction | (exfalso; omega))
      | (unfold kdT; split <;> first | rfl | contradiction | (exfalso; omega))
      | (unfold b2sT; split <;> first | rfl | contradiction | (exfalso; omega))
      | (unfold s2bT; split <;> first | rfl | contradiction | (exfalso; omega))
theorem cOk : C.Ok := Cod.Ok.of fun t => by
  by_cases h2 : t = 2
  · subst h2; exact law2
  by_cases h3 : t = 3
  · subst h3; exact law3
  by_cases h4 : t = 4
  · subst h4; exact law4
  by_cases h5 : t = 5
  · subst h5; exact law5
  by_cases h9 : t = 9
  · subst h9; exact law9
  by_cases h12 : t = 12
  · subst h12; exact law12
  by_cases h21 : t = 21
  · subst h21; exact law21
  by_cases h22 : t = 22
  · subst h22; exact law22
  by_cases h23 : t = 23
  · subst h23; exact law23
  by_cases h24 : t = 24
  · subst h24; exact law24
  by_cases h25 : t = 25
  · subst h25; exact law25
  by_cases h26 : t = 26
  · subst h26; exact law26
  by_cases h27 : t = 27
  · subst h27; exact law27
  by_cases h28 : t = 28
  · subst h28; exact law28
  by_cases h29 : t = 29
  · subst h29; exact law29
  by_cases h30 : t = 30
  · subst h30; exact law30
  by_cases h31 : t = 31
  · subst h31; exact law31
  by_cases h32 : t = 32
  · subst h32; exact law32
  by_cases h33 : t = 33
  · subst h33; exact law33
  by_cases h34 : t = 34
  · subst h34; exact law34
  by_cases h40 : t = 40
  · subst h40; exact law40
  by_cases h41 : t = 41
  · subst h41; exact law41
  by_cases h42 : t = 42
  · subst h42; exact law42
  by_cases h43 : t = 43
  · subst h43; exact law43
  by_cases h44 : t = 44
  · subst h44; exact law44
  by_cases h45 : t = 45
  · subst h45; exact law45
  by_cases h46 : t = 46
  · subst h46; exact law46
  by_cases h47 : t = 47
  · subst h47; exact law47
  by_cases h48 : t = 48
  · subst h48; exact law48
  by_cases h49 : t = 49
  · subst h49; exact law49
  by_cases h50 : t = 50
  · subst h50; exact law50
  by_cases h51 : t = 51
  · subst h51; exact law51
  by_cases h52 : t = 52
  · subst h52; exact law52
  by_cases h53 : t = 53
  · subst h53; exact law53
  by_cases h54 : t = 54
  · subst h54; exact law54
  by_cases h55 : t = 55
  · subst h55; exact law55
  by_cases h56 : t = 56
  · subst h56; exact law56
  by_cases h60 : t = 60
  · subst h60; exact law60
  by_cases h65 : t = 65
  · subst h65; exact law65
  by_cases h96 : t = 96
  · subst h96; exact law96
  by_cases h97 : t = 97
  · subst h97; exact law97
  by_cases h98 : t = 98
  · subst h98; exact law98
  by_cases h100 : t = 100
  · subst h100; exact law100
  by_cases h101 : t = 101
  · subst h101; exact law101
  by_cases h102 : t = 102
  · subst h102; exact law102
  by_cases h107 : t = 107
  · subst h107; exact law107
  by_cases h115 : t = 115
  · subst h115; exact law115
  by_cases h126 : t = 126
  · subst h126; exact law126
  by_cases h138 : t = 138
  · subst h138; exact law138
  by_cases h150 : t = 150
  · subst h150; exact law150
  by_cases h151 : t = 151
  · subst h151; exact law151
  by_cases h152 : t = 152
  · subst h152; exact law152
  by_cases h156 : t = 156
  · subst h156; exact law156
  by_cases h157 : t = 157
  · subst h157; exact law157
  by_cases h158 : t = 158
  · subst h158; exact law158
  by_cases h159 : t = 159
  · subst h159; exact law159
  by_cases h168 : t = 168
  · subst h168; exact law168
  by_cases h169 : t = 169
  · subst h169; exact law169
  by_cases h175 : t = 175
  · subst h175; exact law175
  by_cases h176 : t = 176
  · subst h176; exact law176
  exact lawOther t h2 h3 h4 h5 h9 h12 h21 h22 h23 h24 h25 h26 h27 h28 h29 h30 h31 h32 h33 h34 h40 h41 h42 h43 h44 h45 h46 h47 h48 h49 h50 h51 h52 h53 h54 h55 h56 h60 h65 h96 h97 h98 h100 h101 h102 h107 h115 h126 h138 h150 h151 h152 h156 h157 h158 h159 h168 h169 h175 h176
def zeroT : Nat → Option (TV τ)
  | 1 => some (.nil .func)
  | 2 => some (.int .i64 0)
  | 3 => some (.int .i64 0)
  | 4 => some (.bool false)
  | 5 => some (.int .u8 0)
  | 9 => some (.str [])
  | 12 => some (.int .u64 0)
  | 17 => some (.nil .ptr)
  | 21 => some (.int .i32 0)
  | 22 => some (.arr 3 8 (Vector.replicate 8 (default : Int)))
  | 23 => some (.arr 2 8 (Vector.replicate 8 (default : Int)))
  | 24 => some (.arr 2 8 (Vector.replicate 8 (default : Int)))
  | 25 => some (.agg [(.int .i64 0), (.arr 3 8 (Vector.replicate 8 (default : Int))), (.arr 2 8 (Vector.replicate 8 (default : Int))), (.arr 3 8 (Vector.replicate 8 (default : Int)))])
  | 26 => some (.agg [(.int .i64 0), (.arr 3 8 (Vector.replicate 8 (default : Int))), (.arr 2 8 (Vector.replicate 8 (default : Int))), (.arr 3 8 (Vector.replicate 8 (default : Int)))])
  | 27 => some (.nil .slice)
  | 28 => some (.nil .slice)
  | 29 => some (.arr 28 8 (Vector.replicate 8 (default : List (GOp))))
  | 30 => some (.arr 24 8 (Vector.replicate 8 (default : Vector (Int) 8)))
  | 31 => some (.nil .slice)
  | 32 => some (.nil .slice)
  | 33 => some (.agg [(.int .i64 0), (.int .i64 0), (.bool false), (.agg [(.int .i64 0), (.arr 3 8 (Vector.replicate 8 (default : Int))), (.arr 2 8 (Vector.replicate 8 (default : Int))), (.arr 3 8 (Vector.replicate 8 (default : Int)))]), (.int .i64 0), (.arr 2 8 (Vector.replicate 8 (default : Int))), (.arr 2 8 (Vector.replicate 8 (default : Int))), (.nil .slice), (.nil .slice), (.int .i64 0), (.arr 2 8 (Vector.replicate 8 (default : Int))), (.arr 28 8 (Vector.replicate 8 (default : List (GOp)))), (.arr 24 8 (Vector.replicate 8 (default : Vector (Int) 8))), (.arr 2 8 (Vector.replicate 8 (default : Int))), (.arr 2 8 (Vector.replicate 8 (default : Int))), (.arr 2 8 (Vector.replicate 8 (default : Int))), (.nil .slice), (.nil .slice)])
  | 34 => some (.agg [(.int .i64 0), (.int .i64 0), (.bool false), (.agg [(.int .i64 0), (.arr 3 8 (Vector.replicate 8 (default : Int))), (.arr 2 8 (Vector.replicate 8 (default : Int))), (.arr 3 8 (Vector.replicate 8 (default : Int)))]), (.int .i64 0), (.arr 2 8 (Vector.replicate 8 (default : Int))), (.arr 2 8 (Vector.replicate 8 (default : Int))), (.nil .slice), (.nil .slice), (.int .i64 0), (.arr 2 8 (Vector.replicate 8 (default : Int))), (.arr 28 8 (Vector.replicate 8 (default : List (GOp)))), (.arr 24 8 (Vector.replicate 8 (default : Vector (Int) 8))), (.arr 2 8 (Vector.replicate 8 (default : Int))), (.arr 2 8 (Vector.replicate 8 (default : Int))), (.arr 2 8 (Vector.replicate 8 (default : Int))), (.nil .slice), (.nil .slice)])
  | 35 => some (.nil .func)
  | 36 => some (.nil .func)
  | 37 => some (.nil .func)
  | 38 => some (.nil .func)
  | 39 => some (.nil .func)
  | 40 => some (.agg [(.int .i64 0), (.int .i64 0)])
  | 41 => some (.agg [(.int .i64 0), (.int .i64 0)])
  | 42 => some (.agg [(.agg [(.int .i64 0), (.int .i64 0)]), (.int .i64 0), (.int .i64 0), (.int .i64 0), (.str []), (.str []), (.str [])])
  | 43 => some (.agg [(.agg [(.int .i64 0), (.int .i64 0)]), (.int .i64 0), (.int .i64 0), (.int .i64 0), (.str []), (.str []), (.str [])])
  | 44 => some (.agg [(.int .i64 0), (.int .i64 0)])
  | 45 => some (.agg [(.int .i64 0), (.int .i64 0)])
  | 46 => some (.agg [(.int .i64 0), (.int .i64 0)])
  | 47 => some (.agg [(.int .i64 0), (.int .i64 0)])
  | 48 => some (.nil .slice)
  | 49 => some (.nil .slice)
  | 50 => some (.agg [(.int .i64 0), (.int .i64 0), (.int .i64 0), (.nil .slice)])
  | 51 => some (.agg [(.int .i64 0), (.int .i64 0), (.int .i64 0), (.nil .slice)])
  | 52 => some (.agg [(.int .i64 0), (.int .i64 0), (.int .i64 0), (.agg [(.agg [(.int .i64 0), (.int .i64 0)]), (.int .i64 0), (.int .i64 0), (.int .i64 0), (.str []), (.str []), (.str [])]), (.int .i64 0), (.int .i64 0), (.nil .slice), (.agg [(.int .i64 0), (.arr 3 8 (Vector.replicate 8 (default : Int))), (.arr 2 8 (Vector.replicate 8 (default : Int))), (.arr 3 8 (Vector.replicate 8 (default : Int)))]), (.int .i64 0), (.arr 2 8 (Vector.replicate 8 (default : Int))), (.int .i64 0), (.agg [(.int .i64 0), (.int .i64 0), (.int .i64 0), (.nil .slice)]), (.int .i64 0), (.int .i64 0), (.int .i64 0)])
  | 53 => some (.agg [(.int .i64 0), (.int .i64 0), (.int .i64 0), (.agg [(.agg [(.int .i64 0), (.int .i64 0)]), (.int .i64 0), (.int .i64 0), (.int .i64 0), (.str []), (.str []), (.str [])]), (.int .i64 0), (.int .i64 0), (.nil .slice), (.agg [(.int .i64 0), (.arr 3 8 (Vector.replicate 8 (default : Int))), (.arr 2 8 (Vector.replicate 8 (default : Int))), (.arr 3 8 (Vector.replicate 8 (default : Int)))]), (.int .i64 0), (.arr 2 8 (Vector.replicate 8 (default : Int))), (.int .i64 0), (.agg [(.int .i64 0), (.int .i64 0), (.int .i64 0), (.nil .slice)]), (.int .i64 0), (.int .i64 0), (.int .i64 0)])
  | 54 => some (.agg [(.int .i64 0), (.agg [(.int .i64 0), (.int .i64 0)]), (.agg [(.int .i64 0), (.int .i64 0)]), (.agg [(.int .i64 0), (.int .i64 0)]), (.int .i64 0), (.nil .slice), (.agg [(.int .i64 0), (.int .i64 0), (.int .i64 0), (.agg [(.agg [(.int .i64 0), (.int .i64 0)]), (.int .i64 0), (.int .i64 0), (.int .i64 0), (.str []), (.str []), (.str [])]), (.int .i64 0), (.int .i64 0), (.nil .slice), (.agg [(.int .i64 0), (.arr 3 8 (Vector.replicate 8 (default : Int))), (.arr 2 8 (Vector.replicate 8 (default : Int))), (.arr 3 8 (Vector.replicate 8 (default : Int)))]), (.int .i64 0), (.arr 2 8 (Vector.replicate 8 (default : Int))), (.int .i64 0), (.agg [(.int .i64 0), (.int .i64 0), (.int .i64 0), (.nil .slice)]), (.int .i64 0), (.int .i64 0), (.int .i64 0)]), (.int .i64 0), (.arr 2 8 (Vector.replicate 8 (default : Int))), (.int .i64 0), (.int .i64 0), (.nil .slice), (.agg [(.int .i64 0), (.arr 3 8 (Vector.replicate 8 (default : Int))), (.arr 2 8 (Vector.replicate 8 (default : Int))), (.arr 3 8 (Vector.replicate 8 (default : Int)))]), (.agg [(.int .i64 0), (.int .i64 0), (.int .i64 0), (.nil .slice)])])
  | 55 => some (.agg [(.int .i64 0), (.agg [(.int .i64 0), (.int .i64 0)]), (.agg [(.int .i64 0), (.int .i64 0)]), (.agg [(.int .i64 0), (.int .i64 0)]), (.int .i64 0), (.nil .slice), (.agg [(.int .i64 0), (.int .i64 0), (.int .i64 0), (.agg [(.agg [(.int .i64 0), (.int .i64 0)]), (.int .i64 0), (.int .i64 0), (.int .i64 0), (.str []), (.str []), (.str [])]), (.int .i64 0), (.int .i64 0), (.nil .slice), (.agg [(.int .i64 0), (.arr 3 8 (Vector.replicate 8 (default : Int))), (.arr 2 8 (Vector.replicate 8 (default : Int))), (.arr 3 8 (Vector.replicate 8 (default : Int)))]), (.int .i64 0), (.arr 2 8 (Vector.replicate 8 (default : Int))), (.int .i64 0), (.agg [(.int .i64 0), (.int .i64 0), (.int .i64 0), (.nil .slice)]), (.int .i64 0), (.int .i64 0), (.int .i64 0)]), (.int .i64 0), (.arr 2 8 (Vector.replicate 8 (default : Int))), (.int .i64 0), (.int .i64 0), (.nil .slice), (.agg [(.int .i64 0), (.arr 3 8 (Vector.replicate 8 (default : Int))), (.arr 2 8 (Vector.replicate 8 (default : Int))), (.arr 3 8 (Vector.replicate 8 (default : Int)))]), (.agg [(.int .i64 0), (.int .i64 0), (.int .i64 0), (.nil .slice)])])
  | 56 => some (.int .i64 0)
  | 58 => some (.nil .func)
  | 59 => some (.nil .func)
  | 60 => some (.nil .slice)
  | 61 => some (.nil .func)
  | 62 => some (.nil .func)
  | 63 => some (.nil .func)
  | 64 => some (.nil .func)
  | 65 => some (.nil .slice)
  | 66 => some (.nil .func)
  | 67 => some (.nil .func)
  | 68 => some (.nil .func)
  | 69 => some (.nil .func)
  | 70 => some (.nil .func)
  | 71 => some (.nil .func)
  | 72 => some (.nil .func)
  | 74 => some (.nil .func)
  | 75 => some (.nil .func)
  | 76 => some (.nil .func)
  | 77 => some (.nil .func)
  | 78 => some (.nil .func)
  | 79 => some (.nil .func)
  | 80 => some (.nil .func)
  | 81 => some (.nil .func)
  | 82 => some (.nil .func)
  | 83 => some (.nil .func)
  | 84 => some (.nil .func)
  | 85 => some (.nil .func)
  | 86 => some (.nil .func)
  | 87 => some (.nil .func)
  | 88 => some (.nil .func)
  | 89 => some (.nil .func)
  | 90 => some (.nil .func)
  | 91 => some (.nil .func)
  | 92 => some (.nil .func)
  | 93 => some (.nil .func)
  | 94 => some (.nil .func)
  | 95 => some (.nil .func)
  | 96 => some (.nil .slice)
  | 97 => some (.agg [(.int .i64 0), (.int .i64 0), (.str []), (.nil .slice)])
  | 98 => some (.agg [(.int .i64 0), (.int .i64 0), (.str []), (.nil .slice)])
  | 99 => some (.nil .func)
  | 100 => some (.agg [(.int .i64 0), (.agg [(.int .i64 0), (.int .i64 0)]), (.agg [(.int .i64 0), (.int .i64 0), (.int .i64 0), (.agg [(.agg [(.int .i64 0), (.int .i64 0)]), (.int .i64 0), (.int .i64 0), (.int .i64 0), (.str []), (.str []), (.str [])]), (.int .i64 0), (.int .i64 0), (.nil .slice), (.agg [(.int .i64 0), (.arr 3 8 (Vector.replicate 8 (default : Int))), (.arr 2 8 (Vector.replicate 8 (default : Int))), (.arr 3 8 (Vector.replicate 8 (default : Int)))]), (.int .i64 0), (.arr 2 8 (Vector.replicate 8 (default : Int))), (.int .i64 0), (.agg [(.int .i64 0), (.int .i64 0), (.int .i64 0), (.nil .slice)]), (.int .i64 0), (.int .i64 0), (.int .i64 0)])])
  | 101 => some (.agg [(.int .i64 0), (.agg [(.int .i64 0), (.int .i64 0)]), (.agg [(.int .i64 0), (.int .i64 0), (.int .i64 0), (.agg [(.agg [(.int .i64 0), (.int .i64 0)]), (.int .i64 0), (.int .i64 0), (.int .i64 0), (.str []), (.str []), (.str [])]), (.int .i64 0), (.int .i64 0), (.nil .slice), (.agg [(.int .i64 0), (.arr 3 8 (Vector.replicate 8 (default : Int))), (.arr 2 8 (Vector.replicate 8 (default : Int))), (.arr 3 8 (Vector.replicate 8 (default : Int)))]), (.int .i64 0), (.arr 2 8 (Vector.replicate 8 (default : Int))), (.int .i64 0), (.agg [(.int .i64 0), (.int .i64 0), (.int .i64 0), (.nil .slice)]), (.int .i64 0), (.int .i64 0), (.int .i64 0)])])
  | 102 => some (.nil .slice)
  | 103 => some (.nil .func)
  | 104 => some (.nil .func)
  | 105 => some (.nil .func)
  | 106 => some (.nil .func)
  | 107 => some (.nil .slice)
  | 108 => some (.nil .func)
  | 109 => some (.nil .func)
  | 110 => some (.nil .func)
  | 111 => some (.nil .func)
  | 112 => some (.nil .func)
  | 113 => some (.nil .func)
  | 114 => some (.nil .func)
  | 115 => some (.nil .slice)
  | 116 => some (.nil .ptr)
  | 118 => some (.nil .func)
  | 119 => some (.nil .func)
  | 120 => some (.nil .func)
  | 121 => some (.nil .func)
  | 122 => some (.nil .func)
  | 123 => some (.nil .func)
  | 124 => some (.nil .func)
  | 125 => some (.nil .func)
  | 126 => some (.nil .slice)
  | 127 => some (.nil .func)
  | 128 => some (.nil .func)
  | 129 => some (.nil .func)
  | 131 => some (.nil .func)
  | 132 => some (.nil .func)
  | 133 => some (.nil .func)
  | 134 => some (.nil .func)
  | 135 => some (.nil .func)
  | 136 => some (.nil .func)
  | 137 => some (.nil .func)
  | 138 => some (.nil .slice)
  | 139 => some (.nil .func)
  | 141 => some (.nil .func)
  | 142 => some (.nil .func)
  | 143 => some (.nil .func)
  | 144 => some (.nil .func)
  | 145 => some (.nil .func)
  | 146 => some (.nil .func)
  | 147 => some (.nil .func)
  | 148 => some (.nil .func)
  | 149 => some (.nil .func)
  | 150 => some (.nil .slice)
  | 151 => some (.agg [(.nil .slice), (.nil .slice)])
  | 152 => some (.agg [(.nil .slice), (.nil .slice)])
  | 154 => some (.nil .func)
  | 155 => some (.nil .func)
  | 156 => some (.agg [(.int .i64 0), (.agg [(.int .i64 0), (.int .i64 0)]), (.int .i64 0)])
  | 157 => some (.agg [(.int .i64 0), (.agg [(.int .i64 0), (.int .i64 0)]), (.int .i64 0)])
  | 158 => some (.agg [(.int .i64 0), (.int .i64 0), (.agg [(.int .i64 0), (.agg [(.int .i64 0), (.int .i64 0)]), (.int .i64 0)])])
  | 159 => some (.agg [(.int .i64 0), (.int .i64 0), (.agg [(.int .i64 0), (.agg [(.int .i64 0), (.int .i64 0)]), (.int .i64 0)])])
  | 160 => some (.nil .func)
  | 161 => some (.nil .func)
  | 162 => some (.nil .func)
  | 163 => some (.nil .func)
  | 164 => some (.nil .func)
  | 165 => some (.nil .func)
  | 166 => some (.nil .func)
  | 167 => some (.nil .func)
  | 168 => some (.agg [(.str []), (.str [])])
  | 169 => some (.agg [(.str []), (.str [])])
  | 170 => some (.nil .func)
  | 171 => some (.nil .func)
  | 172 => some (.nil .func)
  | 173 => some (.nil .func)
  | 174 => some (.nil .func)
  | 175 => some (.int .u64 0)
  | 176 => some (.int .u32 0)
  | 178 => some (.nil .func)
  | 179 => some (.nil .func)
  | 185 => some (.nil .func)
  | 189 => some (.nil .ptr)
  | _ => none
theorem zok1 : ∃ i, E.ty 1 = some i ∧ (.nil .func : TV τ).ok = true ∧ CW i.zero ((.nil .func : TV τ).cells C) ∧ (.nil .func : TV τ).isAgg = i.agg := ⟨ti1, rfl, rfl, CW.of_eq (by kernel_rfl), rfl⟩
theorem zok2 : ∃ i, E.ty 2 = some i ∧ (.int .i64 0 : TV τ).ok = true ∧ CW i.zero ((.int .i64 0 : TV τ).cells C) ∧ (.int .i64 0 : TV τ).isAgg = i.agg := ⟨ti2, rfl, rfl, CW.of_eq (by kernel_rfl), rfl⟩
theorem zok3 : ∃ i, E.ty 3 = some i ∧ (.int .i64 0 : TV τ).ok = true ∧ CW i.zero ((.int .i64 0 : TV τ).cells C) ∧ (.int .i64 0 : TV τ).isAgg = i.agg := ⟨ti3, rfl, rfl, CW.of_eq (by kernel_rfl), rfl⟩
theorem zok4 : ∃ i, E.ty 4 = some i ∧ (.bool false : TV τ).ok = true ∧ CW i.zero ((.bool false : TV τ).cells C) ∧ (.bool false : TV τ).isAgg = i.agg := ⟨ti4, rfl, rfl, CW.of_eq (by kernel_rfl), rfl⟩
theorem zok5 : ∃ i, E.ty 5 = some i ∧ (.int .u8 0 : TV τ).ok = true ∧ CW i.zero ((.int .u8 0 : TV τ).cells C) ∧ (.int .u8 0 : TV τ).isAgg = i.agg := ⟨ti5, rfl, rfl, CW.of_eq (by kernel_rfl), rfl⟩
theorem zok9 : ∃ i, E.ty 9 = some i ∧ (.str [] : TV τ).ok = true ∧ CW i.zero ((.str [] : TV τ).cells C) ∧ (.str [] : TV τ).isAgg = i.agg := ⟨ti9, rfl, rfl, CW.of_eq (by kernel_rfl), rfl⟩
theorem zok12 : ∃ i, E.ty 12 = some i ∧ (.int .u64 0 : TV τ).ok = true ∧ CW i.zero ((.int .u64 0 : TV τ).cells C) ∧ (.int .u64 0 : TV τ).isAgg = i.agg := ⟨ti12, rfl, rfl, CW.of_eq (by kernel_rfl), rfl⟩
theorem zok17 : ∃ i, E.ty 17 = some i ∧ (.nil .ptr : TV τ).ok = true ∧ CW i.zero ((.nil .ptr : TV τ).cells C) ∧ (.nil .ptr : TV τ).isAgg = i.agg := ⟨ti17, rfl, rfl, CW.of_eq (by kernel_rfl), rfl⟩
theorem zok21 : ∃ i, E.ty 21 = some i ∧ (.int .i32 0 : TV τ).ok = true ∧ CW i.zero ((.int .i32 0 : TV τ).cells C) ∧ (.int .i32 0 : TV τ).isAgg = i.agg := ⟨ti21, rfl, rfl, CW.of_eq (by kernel_rfl), rfl⟩
theorem zok22 : ∃ i, E.ty 22 = some i ∧ (.arr 3 8 (Vector.replicate 8 (default : Int)) : TV τ).ok = true ∧ CW i.zero ((.arr 3 8 (Vector.replicate 8 (default : Int)) : TV τ).cells C) ∧ (.arr 3 8 (Vector.replicate 8 (default : Int)) : TV τ).isAgg = i.agg := ⟨ti22, rfl, rfl, CW.of_eq (by kernel_rfl), rfl⟩
theorem zok23 : ∃ i, E.ty 23 = some i ∧ (.arr 2 8 (Vector.replicate 8 (default : Int)) : TV τ).ok = true ∧ CW i.zero ((.arr 2 8 (Vector.replicate 8 (default : Int)) : TV τ).cells C) ∧ (.arr 2 8 (Vector.replicate 8 (default : Int)) : TV τ).isAgg = i.agg := ⟨ti23, rfl, rfl, CW.of_eq (by kernel_rfl), rfl⟩
theorem zok24 : ∃ i, E.ty 24 = some i ∧ (.arr 2 8 (Vector.replicate 8 (default : Int)) : TV τ).ok = true ∧ CW i.zero ((.arr 2 8 (Vector.replicate 8 (default : Int)) : TV τ).cells C) ∧ (.arr 2 8 (Vector.replicate 8 (default : Int)) : TV τ).isAgg = i.agg := ⟨ti24, rfl, rfl, CW.of_eq (by kernel_rfl), rfl⟩
theorem zok25 : ∃ i, E.ty 25 = some i ∧ (.agg [(.int .i64 0), (.arr 3 8 (Vector.replicate 8 (default : Int))), (.arr 2 8 (Vector.replicate 8 (default : Int))), (.arr 3 8 (Vector.replicate 8 (default : Int)))] : TV τ).ok = true ∧ CW i.zero ((.agg [(.int .i64 0), (.arr 3 8 (Vector.replicate 8 (default : Int))), (.arr 2 8 (Vector.replicate 8 (default : Int))), (.arr 3 8 (Vector.replicate 8 (default : Int)))] : TV τ).cells C) ∧ (.agg [(.int .i64 0), (.arr 3 8 (Vector.replicate 8 (default : Int))), (.arr 2 8 (Vector.replicate 8 (default : Int))), (.arr 3 8 (Vector.replicate 8 (default : Int)))] : TV τ).isAgg = i.agg := ⟨ti25, rfl, rfl, CW.of_eq (by kernel_rfl), rfl⟩
theorem zok26 : ∃ i, E.ty 26 = some i ∧ (.agg [(.int .i64 0), (.arr 3 8 (Vector.replicate 8 (default : Int))), (.arr 2 8 (Vector.replicate 8 (default : Int))), (.arr 3 8 (Vector.replicate 8 (default : Int)))] : TV τ).ok = true ∧ CW i.zero ((.agg [(.int .i64 0), (.arr 3 8 (Vector.replicate 8 (default : Int))), (.arr 2 8 (Vector.replicate 8 (default : Int))), (.arr 3 8 (Vector.replicate 8 (default : Int)))] : TV τ).cells C) ∧ (.agg [(.int .i64 0), (.arr 3 8 (Vector.replicate 8 (default : Int))), (.arr 2 8 (Vector.replicate 8 (default : Int))), (.arr 3 8 (Vector.replicate 8 (default : Int)))] : TV τ).isAgg = i.agg := ⟨ti26, rfl, rfl, CW.of_eq (by kernel_rfl), rfl⟩
theorem zok27 : ∃ i, E.ty 27 = some i ∧ (.nil .slice : TV τ).ok = true ∧ CW i.zero ((.nil .slice : TV τ).cells C) ∧ (.nil .slice : TV τ).isAgg = i.agg := ⟨ti27, rfl, rfl, CW.of_eq (by kernel_rfl), rfl⟩
theorem zok28 : ∃ i, E.ty 28 = some i ∧ (.nil .slice : TV τ).ok = true ∧ CW i.zero ((.nil .slice : TV τ).cells C) ∧ (.nil .slice : TV τ).isAgg = i.agg := ⟨ti28, rfl, rfl, CW.of_eq (by kernel_rfl), rfl⟩
theorem zok29 : ∃ i, E.ty 29 = some i ∧ (.arr 28 8 (Vector.replicate 8 (default : List (GOp))) : TV τ).ok = true ∧ CW i.zero ((.arr 28 8 (Vector.replicate 8 (default : List (GOp))) : TV τ).cells C) ∧ (.arr 28 8 (Vector.replicate 8 (default : List (GOp))) : TV τ).isAgg = i.agg := ⟨ti29, rfl, rfl, (show ((.arr 28 8 (Vector.replicate 8 (default : List (GOp))) : TV τ).cells C) = [.asl 8 [], .asl 8 [], .asl 8 [], .asl 8 [], .asl 8 [], .asl 8 [], .asl 8 [], .asl 8 []] from by kernel_rfl) ▸ zz_cw (trivial), rfl⟩
theorem zok30 : ∃ i, E.ty 30 = some i ∧ (.arr 24 8 (Vector.replicate 8 (default : Vector (Int) 8)) : TV τ).ok = true ∧ CW i.zero ((.arr 24 8 (Vector.replicate 8 (default : Vector (Int) 8)) : TV τ).cells C) ∧ (.arr 24 8 (Vector.replicate 8 (default : Vector (Int) 8)) : TV τ).isAgg = i.agg := ⟨ti30, rfl, rfl, CW.of_eq (by kernel_rfl), rfl⟩
theorem zok31 : ∃ i, E.ty 31 = some i ∧ (.nil .slice : TV τ).ok = true ∧ CW i.zero ((.nil .slice : TV τ).cells C) ∧ (.nil .slice : TV τ).isAgg = i.agg := ⟨ti31, rfl, rfl, CW.of_eq (by kernel_rfl), rfl⟩
theorem zok32 : ∃ i, E.ty 32 = some i ∧ (.nil .slice : TV τ).ok = true ∧ CW i.zero ((.nil .slice : TV τ).cells C) ∧ (.nil .slice : TV τ).isAgg = i.agg := ⟨ti32, rfl, rfl, CW.of_eq (by kernel_rfl), rfl⟩
theorem zok33 : ∃ i, E.ty 33 = some i ∧ (.agg [(.int .i64 0), (.int .i64 0), (.bool false), (.agg [(.int .i64 0), (.arr 3 8 (Vector.replicate 8 (default : Int))), (.arr 2 8 (Vector.replicate 8 (default : Int))), (.arr 3 8 (Vector.replicate 8 (default : Int)))]), (.int .i64 0), (.arr 2 8 (Vector.replicate 8 (default : Int))), (.arr 2 8 (Vector.replicate 8 (default : Int))), (.nil .slice), (.nil .slice), (.int .i64 0), (.arr 2 8 (Vector.replicate 8 (default : Int))), (.arr 28 8 (Vector.replicate 8 (default : List (GOp)))), (.arr 24 8 (Vector.replicate 8 (default : Vector (Int) 8))), (.arr 2 8 (Vector.replicate 8 (default : Int))), (.arr 2 8 (Vector.replicate 8 (default : Int))), (.arr 2 8 (Vector.replicate 8 (default : Int))), (.nil .slice), (.nil .slice)] : TV τ).ok = true ∧ CW i.zero ((.agg [(.int .i64 0), (.int .i64 0), (.bool false), (.agg [(.int .i64 0), (.arr 3 8 (Vector.replicate 8 (default : Int))), (.arr 2 8 (Vector.replicate 8 (default : Int))), (.arr 3 8 (Vector.replicate 8 (default : Int)))]), (.int .i64 0), (.arr 2 8 (Vector.replicate 8 (default : Int))), (.arr 2 8 (Vector.replicate 8 (default : Int))), (.nil .slice), (.nil .slice), (.int .i64 0), (.arr 2 8 (Vector.replicate 8 (default : Int))), (.arr 28 8 (Vector.replicate 8 (default : List (GOp)))), (.arr 24 8 (Vector.replicate 8 (default : Vector (Int) 8))), (.arr 2 8 (Vector.replicate 8 (default : Int))), (.arr 2 8 (Vector.replicate 8 (default : Int))), (.arr 2 8 (Vector.replicate 8 (default : Int))), (.nil .slice), (.nil .slice)] : TV τ).cells C) ∧ (.agg [(.int .i64 0), (.int .i64 0), (.bool false), (.agg [(.int .i64 0), (.arr 3 8 (Vector.replicate 8 (default : Int))), (.arr 2 8 (Vector.replicate 8 (default : Int))), (.arr 3 8 (Vector.replicate 8 (default : Int)))]), (.int .i64 0), (.arr 2 8 (Vector.replicate 8 (default : Int))), (.arr 2 8 (Vector.replicate 8 (default : Int))), (.nil .slice), (.nil .slice), (.int .i64 0), (.arr 2 8 (Vector.replicate 8 (default : Int))), (.arr 28 8 (Vector.replicate 8 (default : List (GOp)))), (.arr 24 8 (Vector.replicate 8 (default : Vector (Int) 8))), (.arr 2 8 (Vector.replicate 8 (default : Int))), (.arr 2 8 (Vector.replicate 8 (default : Int))), (.arr 2 8 (Vector.replicate 8 (default : Int))), (.nil .slice), (.nil .slice)] : TV τ).isAgg = i.agg := ⟨ti33, rfl, rfl, (show ((.agg [(.int .i64 0), (.int .i64 0), (.bool false), (.agg [(.int .i64 0), (.arr 3 8 (Vector.replicate 8 (default : Int))), (.arr 2 8 (Vector.replicate 8 (default : Int))), (.arr 3 8 (Vector.replicate 8 (default : Int)))]), (.int .i64 0), (.arr 2 8 (Vector.replicate 8 (default : Int))), (.arr 2 8 (Vector.replicate 8 (default : Int))), (.nil .slice), (.nil .slice), (.int .i64 0), (.arr 2 8 (Vector.replicate 8 (default : Int))), (.arr 28 8 (Vector.replicate 8 (default : List (GOp)))), (.arr 24 8 (Vector.replicate 8 (default : Vector (Int) 8))), (.arr 2 8 (Vector.replicate 8 (default : Int))), (.arr 2 8 (Vector.replicate 8 (default : Int))), (.arr 2 8 (Vector.replicate 8 (default : Int))), (.nil .slice), (.nil .slice)] : TV τ).cells C) = [.v (.int .i64 0), .v (.int .i64 0), .v (.bool false), .v (.int .i64 0), .v (.int .i64 0), .v (.int .i64 0), .v (.int .i64 0), .v (.int .i64 0), .v (.int .i64 0), .v (.int .i64 0), .v (.int .i64 0), .v (.int .i64 0), .v (.int .i64 0), .v (.int .i64 0), .v (.int .i64 0), .v (.int .i64 0), .v (.int .i64 0), .v (.int .i64 0), .v (.int .i64 0), .v (.int .i64 0), .v (.int .i64 0), .v (.int .i64 0), .v (.int .i64 0), .v (.int .i64 0), .v (.int .i64 0), .v (.int .i64 0), .v (.int .i64 0), .v (.int .i64 0), .v (.int .i64 0), .v (.int .i64 0), .v (.int .i64 0), .v (.int .i64 0), .v (.int .i64 0), .v (.int .i64 0), .v (.int .i64 0), .v (.int .i64 0), .v (.int .i64 0), .v (.int .i64 0), .v (.int .i64 0), .v (.int .i64 0), .v (.int .i64 0), .v (.int .i64 0), .v (.int .i64 0), .v (.int .i64 0), .v (.int .i64 0), .v (.slice none 0 0), .v (.slice none 0 0), .v (.int .i64 0), .v (.int .i64 0), .v (.int .i64 0), .v (.int .i64 0), .v (.int .i64 0), .v (.int .i64 0), .v (.int .i64 0), .v (.int .i64 0), .v (.int .i64 0), .asl 8 [], .asl 8 [], .asl 8 [], .asl 8 [], .asl 8 [], .asl 8 [], .asl 8 [], .asl 8 [], .v (.int .i64 0), .v (.int .i64 0), .v (.int .i64 0), .v (.int .i64 0), .v (.int .i64 0), .v (.int .i64 0), .v (.int .i64 0), .v (.int .i64 0), .v (.int .i64 0), .v (.int .i64 0), .v (.int .i64 0), .v (.int .i64 0), .v (.int .i64 0), .v (.int .i64 0), .v (.int .i64 0), .v (.int .i64 0), .v (.int .i64 0), .v (.int .i64 0), .v (.int .i64 0), .v (.int .i64 0), .v (.int .i64 0), .v (.int .i64 0), .v (.int .i64 0), .v (.int .i64 0), .v (.int .i64 0), .v (.int .i64 0), .v (.int .i64 0), .v (.int .i64 0), .v (.int .i64 0), .v (.int .i64 0), .v (.int .i64 0), .v (.int .i64 0), .v (.int .i64 0), .v (.int .i64 0), .v (.int .i64 0), .v (.int .i64 0), .v (.int .i64 0), .v (.int .i64 0), .v (.int .i64 0), .v (.int .i64 0), .v (.int .i64 0), .v (.int .i64 0), .v (.int .i64 0), .v (.int .i64 0), .v (.int .i64 0), .v (.int .i64 0), .v (.int .i64 0), .v (.int .i64 0), .v (.int .i64 0), .v (.int .i64 0), .v (.int .i64 0), .v (.int .i64 0), .v (.int .i64 0), .v (.int .i64 0), .v (.int .i64 0), .v (.int .i64 0), .v (.int .i64 0), .v (.int .i64 0), .v (.int .i64 0), .v (.int .i64 0), .v (.int .i64 0), .v (.int .i64 0), .v (.int .i64 0), .v (.int .i64 0), .v (.int .i64 0), .v (.int .i64 0), .v (.int .i64 0), .v (.int .i64 0), .v (.int .i64 0), .v (.int .i64 0), .v (.int .i64 0), .v (.int .i64 0), .v (.int .i64 0), .v (.int .i64 0), .v (.int .i64 0), .v (.int .i64 0), .v (.int .i64 0), .v (.int .i64 0), .v (.int .i64 0), .v (.int .i64 0), .v (.int .i64 0), .v (.int .i64 0), .v (.int .i64 0), .v (.int .i64 0), .v (.int .i64 0), .v (.int .i64 0), .v (.int .i64 0), .v (.int .i64 0), .v (.slice none 0 0), .v (.slice none 0 0)] from by kernel_rfl) ▸ zz_cw (⟨rfl, ⟨rfl, ⟨rfl, ⟨rfl, ⟨rfl, ⟨rfl, ⟨rfl, ⟨rfl, ⟨rfl, ⟨rfl, ⟨rfl, ⟨rfl, ⟨rfl, ⟨rfl, ⟨rfl, ⟨rfl, ⟨rfl, ⟨rfl, ⟨rfl, ⟨rfl, ⟨rfl, ⟨rfl, ⟨rfl, ⟨rfl, ⟨rfl, ⟨rfl, ⟨rfl, ⟨rfl, ⟨rfl, ⟨rfl, ⟨rfl, ⟨rfl, ⟨rfl, ⟨rfl, ⟨rfl, ⟨rfl, ⟨rfl, ⟨rfl, ⟨rfl, ⟨rfl, ⟨rfl, ⟨rfl, ⟨rfl, ⟨rfl, ⟨rfl, ⟨rfl, ⟨rfl, ⟨rfl, ⟨rfl, ⟨rfl, ⟨rfl, ⟨rfl, ⟨rfl, ⟨rfl, ⟨rfl, ⟨rfl, ⟨rfl, ⟨rfl, ⟨rfl, ⟨rfl, ⟨rfl, ⟨rfl, ⟨rfl, ⟨rfl, ⟨rfl, ⟨rfl, ⟨rfl, ⟨rfl, ⟨rfl, ⟨rfl, ⟨rfl, ⟨rfl, ⟨rfl, ⟨rfl, ⟨rfl, ⟨rfl, ⟨rfl, ⟨rfl, ⟨rfl, ⟨rfl, ⟨rfl, ⟨rfl, ⟨rfl, ⟨rfl, ⟨rfl, ⟨rfl, ⟨rfl, ⟨rfl, ⟨rfl, ⟨rfl, ⟨rfl, ⟨rfl, ⟨rfl, ⟨rfl, ⟨rfl, ⟨rfl, ⟨rfl, ⟨rfl, ⟨rfl, ⟨rfl, ⟨rfl, ⟨rfl, ⟨rfl, ⟨rfl, ⟨rfl, ⟨rfl, ⟨rfl, ⟨rfl, ⟨rfl, ⟨rfl, ⟨rfl, ⟨rfl, ⟨rfl, ⟨rfl, ⟨rfl, ⟨rfl, ⟨rfl, ⟨rfl, ⟨rfl, ⟨rfl, ⟨rfl, ⟨rfl, ⟨rfl, ⟨rfl, ⟨rfl, ⟨rfl, ⟨rfl, ⟨rfl, ⟨rfl, ⟨rfl, ⟨rfl, ⟨rfl, ⟨rfl, ⟨rfl, ⟨rfl, ⟨rfl, ⟨rfl, ⟨rfl, ⟨rfl, ⟨rfl, ⟨rfl, ⟨rfl, ⟨rfl, ⟨rfl, ⟨rfl, ⟨rfl, trivial⟩⟩⟩⟩⟩⟩⟩⟩⟩⟩⟩⟩⟩⟩⟩⟩⟩⟩⟩⟩⟩⟩⟩⟩⟩⟩⟩⟩⟩⟩⟩⟩⟩⟩⟩⟩⟩⟩⟩⟩⟩⟩⟩⟩⟩⟩⟩⟩⟩⟩⟩⟩⟩⟩⟩⟩⟩⟩⟩⟩⟩⟩⟩⟩⟩⟩⟩⟩⟩⟩⟩⟩⟩⟩⟩⟩⟩⟩⟩⟩⟩⟩⟩⟩⟩⟩⟩⟩⟩⟩⟩⟩⟩⟩⟩⟩⟩⟩⟩⟩⟩⟩⟩⟩⟩⟩⟩⟩⟩⟩⟩⟩⟩⟩⟩⟩⟩⟩⟩⟩⟩⟩⟩⟩⟩⟩⟩⟩⟩⟩⟩⟩⟩⟩⟩⟩⟩⟩⟩⟩⟩⟩⟩⟩⟩⟩), rfl⟩
theorem zok34 : ∃ i, E.ty 34 = some i ∧ (.agg [(.int .i64 0), (.int .i64 0), (.bool false), (.agg [(.int .i64 0), (.arr 3 8 (Vector.replicate 8 (default : Int))), (.arr 2 8 (Vector.replicate 8 (default : Int))), (.arr 3 8 (Vector.replicate 8 (default : Int)))]), (.int .i64 0), (.arr 2 8 (Vector.replicate 8 (default : Int))), (.arr 2 8 (Vector.replicate 8 (default : Int))), (.nil .slice), (.nil .slice), (.int .i64 0), (.arr 2 8 (Vector.replicate 8 (default : Int))), (.arr 28 8 (Vector.replicate 8 (default : List (GOp)))), (.arr 24 8 (Vector.replicate 8 (default : Vector (Int) 8))), (.arr 2 8 (Vector.replicate 8 (default : Int))), (.arr 2 8 (Vector.replicate 8 (default : Int))), (.arr 2 8 (Vector.replicate 8 (default : Int))), (.nil .slice), (.nil .slice)] : TV τ).ok = true ∧ CW i.zero ((.agg [(.int .i64 0), (.int .i64 0), (.bool false), (.agg [(.int .i64 0), (.arr 3 8 (Vector.replicate 8 (default : Int))), (.arr 2 8 (Vector.replicate 8 (default : Int))), (.arr 3 8 (Vector.replicate 8 (default : Int)))]), (.int .i64 0), (.arr 2 8 (Vector.replicate 8 (default : Int))), (.arr 2 8 (Vector.replicate 8 (default : Int))), (.nil .slice), (.nil .slice), (.int .i64 0), (.arr 2 8 (Vector.replicate 8 (default : Int))), (.arr 28 8 (Vector.replicate 8 (default : List (GOp)))), (.arr 24 8 (Vector.replicate 8 (default : Vector (Int) 8))), (.arr 2 8 (Vector.replicate 8 (default : Int))), (.arr 2 8 (Vector.replicate 8 (default : Int))), (.arr 2 8 (Vector.replicate 8 (default : Int))), (.nil .slice), (.nil .slice)] : TV τ).cells C) ∧ (.agg [(.int .i64 0), (.int .i64 0), (.bool false), (.agg [(.int .i64 0), (.arr 3 8 (Vector.replicate 8 (default : Int))), (.arr 2 8 (Vector.replicate 8 (default : Int))), (.arr 3 8 (Vector.replicate 8 (default : Int)))]), (.int .i64 0), (.arr 2 8 (Vector.replicate 8 (default : Int))), (.arr 2 8 (Vector.replicate 8 (default : Int))), (.nil .slice), (.nil .slice), (.int .i64 0), (.arr 2 8 (Vector.replicate 8 (default : Int))), (.arr 28 8 (Vector.replicate 8 (default : List (GOp)))), (.arr 24 8 (Vector.replicate 8 (default : Vector (Int) 8))), (.arr 2 8 (Vector.replicate 8 (default : Int))), (.arr 2 8 (Vector.replicate 8 (default : Int))), (.arr 2 8 (Vector.replicate 8 (default : Int))), (.nil .slice), (.nil .slice)] : TV τ).isAgg = i.agg := ⟨ti34, rfl, rfl, (show ((.agg [(.int .i64 0), (.int .i64 0), (.bool false), (.agg [(.int .i64 0), (.arr 3 8 (Vector.replicate 8 (default : Int))), (.arr 2 8 (Vector.replicate 8 (default : Int))), (.arr 3 8 (Vector.replicate 8 (default : Int)))]), (.int .i64 0), (.arr 2 8 (Vector.replicate 8 (default : Int))), (.arr 2 8 (Vector.replicate 8 (default : Int))), (.nil .slice), (.nil .slice), (.int .i64 0), (.arr 2 8 (Vector.replicate 8 (default : Int))), (.arr 28 8 (Vector.replicate 8 (default : List (GOp)))), (.arr 24 8 (Vector.replicate 8 (default : Vector (Int) 8))), (.arr 2 8 (Vector.replicate 8 (default : Int))), (.arr 2 8 (Vector.replicate 8 (default : Int))), (.arr 2 8 (Vector.replicate 8 (default : Int))), (.nil .slice), (.nil .slice)] : TV τ).cells C) = [.v (.int .i64 0), .v (.int .i64 0), .v (.bool false), .v (.int .i64 0), .v (.int .i64 0), .v (.int .i64 0), .v (.int .i64 0), .v (.int .i64 0), .v (.int .i64 0), .v (.int .i64 0), .v (.int .i64 0), .v (.int .i64 0), .v (.int .i64 0), .v (.int .i64 0), .v (.int .i64 0), .v (.int .i64 0), .v (.int .i64 0), .v (.int .i64 0), .v (.int .i64 0), .v (.int .i64 0), .v (.int .i64 0), .v (.int .i64 0), .v (.int .i64 0), .v (.int .i64 0), .v (.int .i64 0), .v (.int .i64 0), .v (.int .i64 0), .v (.int .i64 0), .v (.int .i64 0), .v (.int .i64 0), .v (.int .i64 0), .v (.int .i64 0), .v (.int .i64 0), .v (.int .i64 0), .v (.int .i64 0), .v (.int .i64 0), .v (.int .i64 0), .v (.int .i64 0), .v (.int .i64 0), .v (.int .i64 0), .v (.int .i64 0), .v (.int .i64 0), .v (.int .i64 0), .v (.int .i64 0), .v (.int .i64 0), .v (.slice none 0 0), .v (.slice none 0 0), .v (.int .i64 0), .v (.int .i64 0), .v (.int .i64 0), .v (.int .i64 0), .v (.int .i64 0), .v (.int .i64 0), .v (.int .i64 0), .v (.int .i64 0), .v (.int .i64 0), .asl 8 [], .asl 8 [], .asl 8 [], .asl 8 [], .asl 8 [], .asl 8 [], .asl 8 [], .asl 8 [], .v (.int .i64 0), .v (.int .i64 0), .v (.int .i64 0), .v (.int .i64 0), .v (.int .i64 0), .v (.int .i64 0), .v (.int .i64 0), .v (.int .i64 0), .v (.int .i64 0), .v (.int .i64 0), .v (.int .i64 0), .v (.int .i64 0), .v (.int .i64 0), .v (.int .i64 0), .v (.int .i64 0), .v (.int .i64 0), .v (.int .i64 0), .v (.int .i64 0), .v (.int .i64 0), .v (.int .i64 0), .v (.int .i64 0), .v (.int .i64 0), .v (.int .i64 0), .v (.int .i64 0), .v (.int .i64 0), .v (.int .i64 0), .v (.int .i64 0), .v (.int .i64 0), .v (.int .i64 0), .v (.int .i64 0), .v (.int .i64 0), .v (.int .i64 0), .v (.int .i64 0), .v (.int .i64 0), .v (.int .i64 0), .v (.int .i64 0), .v (.int .i64 0), .v (.int .i64 0), .v (.int .i64 0), .v (.int .i64 0), .v (.int .i64 0), .v (.int .i64 0), .v (.int .i64 0), .v (.int .i64 0), .v (.int .i64 0), .v (.int .i64 0), .v (.int .i64 0), .v (.int .i64 0), .v (.int .i64 0), .v (.int .i64 0), .v (.int .i64 0), .v (.int .i64 0), .v (.int .i64 0), .v (.int .i64 0), .v (.int .i64 0), .v (.int .i64 0), .v (.int .i64 0), .v (.int .i64 0), .v (.int .i64 0), .v (.int .i64 0), .v (.int .i64 0), .v (.int .i64 0), .v (.int .i64 0), .v (.int .i64 0), .v (.int .i64 0), .v (.int .i64 0), .v (.int .i64 0), .v (.int .i64 0), .v (.int .i64 0), .v (.int .i64 0), .v (.int .i64 0), .v (.int .i64 0), .v (.int .i64 0), .v (.int .i64 0), .v (.int .i64 0), .v (.int .i64 0), .v (.int .i64 0), .v (.int .i64 0), .v (.int .i64 0), .v (.int .i64 0), .v (.int .i64 0), .v (.int .i64 0), .v (.int .i64 0), .v (.int .i64 0), .v (.int .i64 0), .v (.int .i64 0), .v (.int .i64 0), .v (.int .i64 0), .v (.slice none 0 0), .v (.slice none 0 0)] from by kernel_rfl) ▸ zz_cw (⟨rfl, ⟨rfl, ⟨rfl, ⟨rfl, ⟨rfl, ⟨rfl, ⟨rfl, ⟨rfl, ⟨rfl, ⟨rfl, ⟨rfl, ⟨rfl, ⟨rfl, ⟨rfl, ⟨rfl, ⟨rfl, ⟨rfl, ⟨rfl, ⟨rfl, ⟨rfl, ⟨rfl, ⟨rfl, ⟨rfl, ⟨rfl, ⟨rfl, ⟨rfl, ⟨rfl, ⟨rfl, ⟨rfl, ⟨rfl, ⟨rfl, ⟨rfl, ⟨rfl, ⟨rfl, ⟨rfl, ⟨rfl, ⟨rfl, ⟨rfl, ⟨rfl, ⟨rfl, ⟨rfl, ⟨rfl, ⟨rfl, ⟨rfl, ⟨rfl, ⟨rfl, ⟨rfl, ⟨rfl, ⟨rfl, ⟨rfl, ⟨rfl, ⟨rfl, ⟨rfl, ⟨rfl, ⟨rfl, ⟨rfl, ⟨rfl, ⟨rfl, ⟨rfl, ⟨rfl, ⟨rfl, ⟨rfl, ⟨rfl, ⟨rfl, ⟨rfl, ⟨rfl, ⟨rfl, ⟨rfl, ⟨rfl, ⟨rfl, ⟨rfl, ⟨rfl, ⟨rfl, ⟨rfl, ⟨rfl, ⟨rfl, ⟨rfl, ⟨rfl, ⟨rfl, ⟨rfl, ⟨rfl, ⟨rfl, ⟨rfl, ⟨rfl, ⟨rfl, ⟨rfl, ⟨rfl, ⟨rfl, ⟨rfl, ⟨rfl, ⟨rfl, ⟨rfl, ⟨rfl, ⟨rfl, ⟨rfl, ⟨rfl, ⟨rfl, ⟨rfl, ⟨rfl, ⟨rfl, ⟨rfl, ⟨rfl, ⟨rfl, ⟨rfl, ⟨rfl, ⟨rfl, ⟨rfl, ⟨rfl, ⟨rfl, ⟨rfl, ⟨rfl, ⟨rfl, ⟨rfl, ⟨rfl, ⟨rfl, ⟨rfl, ⟨rfl, ⟨rfl, ⟨rfl, ⟨rfl, ⟨rfl, ⟨rfl, ⟨rfl, ⟨rfl, ⟨rfl, ⟨rfl, ⟨rfl, ⟨rfl, ⟨rfl, ⟨rfl, ⟨rfl, ⟨rfl, ⟨rfl, ⟨rfl, ⟨rfl, ⟨rfl, ⟨rfl, ⟨rfl, ⟨rfl, ⟨rfl, ⟨rfl, ⟨rfl, ⟨rfl, ⟨rfl, ⟨rfl, ⟨rfl, trivial⟩⟩⟩⟩⟩⟩⟩⟩⟩⟩⟩⟩⟩⟩⟩⟩⟩⟩⟩⟩⟩⟩⟩⟩⟩⟩⟩⟩⟩⟩⟩⟩⟩⟩⟩⟩⟩⟩⟩⟩⟩⟩⟩⟩⟩⟩⟩⟩⟩⟩⟩⟩⟩⟩⟩⟩⟩⟩⟩⟩⟩⟩⟩⟩⟩⟩⟩⟩⟩⟩⟩⟩⟩⟩⟩⟩⟩⟩⟩⟩⟩⟩⟩⟩⟩⟩⟩⟩⟩⟩⟩⟩⟩⟩⟩⟩⟩⟩⟩⟩⟩⟩⟩⟩⟩⟩⟩⟩⟩⟩⟩⟩⟩⟩⟩⟩⟩⟩⟩⟩⟩⟩⟩⟩⟩⟩⟩⟩⟩⟩⟩⟩⟩⟩⟩⟩⟩⟩⟩⟩⟩⟩⟩⟩⟩⟩), rfl⟩
theorem zok35 : ∃ i, E.ty 35 = some i ∧ (.nil .func : TV τ).ok = true ∧ CW i.zero ((.nil .func : TV τ).cells C) ∧ (.nil .func : TV τ).isAgg = i.agg := ⟨ti35, rfl, rfl, CW.of_eq (by kernel_rfl), rfl⟩
theorem zok36 : ∃ i, E.ty 36 = some i ∧ (.nil .func : TV τ).ok = true ∧ CW i.zero ((.nil .func : TV τ).cells C) ∧ (.nil .func : TV τ).isAgg = i.agg := ⟨ti36, rfl, rfl, CW.of_eq (by kernel_rfl), rfl⟩
theorem zok37 : ∃ i, E.ty 37 = some i ∧ (.nil .func : TV τ).ok = true ∧ CW i.zero ((.nil .func : TV τ).cells C) ∧ (.nil .func : TV τ).isAgg = i.agg := ⟨ti37, rfl, rfl, CW.of_eq (by kernel_rfl), rfl⟩
theorem zok38 : ∃ i, E.ty 38 = some i ∧ (.nil .func : TV τ).ok = true ∧ CW i.zero ((.nil .func : TV τ).cells C) ∧ (.nil .func : TV τ).isAgg = i.agg := ⟨ti38, rfl, rfl, CW.of_eq (by kernel_rfl), rfl⟩
theorem zok39 : ∃ i, E.ty 39 = some i ∧ (.nil .func : TV τ).ok = true ∧ CW i.zero ((.nil .func : TV τ).cells C) ∧ (.nil .func : TV τ).isAgg = i.agg := ⟨ti39, rfl, rfl, CW.of_eq (by kernel_rfl), rfl⟩
theorem zok40 : ∃ i, E.ty 40 = some i ∧ (.agg [(.int .i64 0), (.int .i64 0)] : TV τ).ok = true ∧ CW i.zero ((.agg [(.int .i64 0), (.int .i64 0)] : TV τ).cells C) ∧ (.agg [(.int .i64 0), (.int .i64 0)] : TV τ).isAgg = i.agg := ⟨ti40, rfl, rfl, CW.of_eq (by kernel_rfl), rfl⟩
theorem zok41 : ∃ i, E.ty 41 = some i ∧ (.agg [(.int .i64 0), (.int .i64 0)] : TV τ).ok = true ∧ CW i.zero ((.agg [(.int .i64 0), (.int .i64 0)] : TV τ).cells C) ∧ (.agg [(.int .i64 0), (.int .i64 0)] : TV τ).isAgg = i.agg := ⟨ti41, rfl, rfl, CW.of_eq (by kernel_rfl), rfl⟩
theorem zok42 : ∃ i, E.ty 42 = some i ∧ (.agg [(.agg [(.int .i64 0), (.int .i64 0)]), (.int .i64 0), (.int .i64 0), (.int .i64 0), (.str []), (.str []), (.str [])] : TV τ).ok = true ∧ CW i.zero ((.agg [(.agg [(.int .i64 0), (.int .i64 0)]), (.int .i64 0), (.int .i64 0), (.int .i64 0), (.str []), (.str []), (.str [])] : TV τ).cells C) ∧ (.agg [(.agg [(.int .i64 0), (.int .i64 0)]), (.int .i64 0), (.int .i64 0), (.int .i64 0), (.str []), (.str []), (.str [])] : TV τ).isAgg = i.agg := ⟨ti42, rfl, rfl, CW.of_eq (by kernel_rfl), rfl⟩
theorem zok43 : ∃ i, E.ty 43 = some i ∧ (.agg [(.agg [(.int .i64 0), (.int .i64 0)]), (.int .i64 0), (.int .i64 0), (.int .i64 0), (.str []), (.str []), (.str [])] : TV τ).ok = true ∧ CW i.zero ((.agg [(.agg [(.int .i64 0), (.int .i64 0)]), (.int .i64 0), (.int .i64 0), (.int .i64 0), (.str []), (.str []), (.str [])] : TV τ).cells C) ∧ (.agg [(.agg [(.int .i64 0), (.int .i64 0)]), (.int .i64 0), (.int .i64 0), (.int .i64 0), (.str []), (.str []), (.str [])] : TV τ).isAgg = i.agg := ⟨ti43, rfl, rfl, CW.of_eq (by kernel_rfl), rfl⟩
theorem zok44 : ∃ i, E.ty 44 = some i ∧ (.agg [(.int .i64 0), (.int .i64 0)] : TV τ).ok = true ∧ CW i.zero ((.agg [(.int .i64 0), (.int .i64 0)] : TV τ).cells C) ∧ (.agg [(.int .i64 0), (.int .i64 0)] : TV τ).isAgg = i.agg := ⟨ti44, rfl, rfl, CW.of_eq (by kernel_rfl), rfl⟩
theorem zok45 : ∃ i, E.ty 45 = some i ∧ (.agg [(.int .i64 0), (.int .i64 0)] : TV τ).ok = true ∧ CW i.zero ((.agg [(.int .i64 0), (.int .i64 0)] : TV τ).cells C) ∧ (.agg [(.int .i64 0), (.int .i64 0)] : TV τ).isAgg = i.agg := ⟨ti45, rfl, rfl, CW.of_eq (by kernel_rfl), rfl⟩
theorem zok46 : ∃ i, E.ty 46 = some i ∧ (.agg [(.int .i64 0), (.int .i64 0)] : TV τ).ok = true ∧ CW i.zero ((.agg [(.int .i64 0), (.int .i64 0)] : TV τ).cells C) ∧ (.agg [(.int .i64 0), (.int .i64 0)] : TV τ).isAgg = i.agg := ⟨ti46, rfl, rfl, CW.of_eq (by kernel_rfl), rfl⟩
theorem zok47 : ∃ i, E.ty 47 = some i ∧ (.agg [(.int .i64 0), (.int .i64 0)] : TV τ).ok = true ∧ CW i.zero ((.agg [(.int .i64 0), (.int .i64 0)] : TV τ).cells C) ∧ (.agg [(.int .i64 0), (.int .i64 0)] : TV τ).isAgg = i.agg := ⟨ti47, rfl, rfl, CW.of_eq (by kernel_rfl), rfl⟩
theorem zok48 : ∃ i, E.ty 48 = some i ∧ (.nil .slice : TV τ).ok = true ∧ CW i.zero ((.nil .slice : TV τ).cells C) ∧ (.nil .slice : TV τ).isAgg = i.agg := ⟨ti48, rfl, rfl, CW.of_eq (by kernel_rfl), rfl⟩
theorem zok49 : ∃ i, E.ty 49 = some i ∧ (.nil .slice : TV τ).ok = true ∧ CW i.zero ((.nil .slice : TV τ).cells C) ∧ (.nil .slice : TV τ).isAgg = i.agg := ⟨ti49, rfl, rfl, CW.of_eq (by kernel_rfl), rfl⟩
theorem zok50 : ∃ i, E.ty 50 = some i ∧ (.agg [(.int .i64 0), (.int .i64 0), (.int .i64 0), (.nil .slice)] : TV τ).ok = true ∧ CW i.zero ((.agg [(.int .i64 0), (.int .i64 0), (.int .i64 0), (.nil .slice)] : TV τ).cells C) ∧ (.agg [(.int .i64 0), (.int .i64 0), (.int .i64 0), (.nil .slice)] : TV τ).isAgg = i.agg := ⟨ti50, rfl, rfl, CW.of_eq (by kernel_rfl), rfl⟩
theorem zok51 : ∃ i, E.ty 51 = some i ∧ (.agg [(.int .i64 0), (.int .i64 0), (.int .i64 0), (.nil .slice)] : TV τ).ok = true ∧ CW i.zero ((.agg [(.int .i64 0), (.int .i64 0), (.int .i64 0), (.nil .slice)] : TV τ).cells C) ∧ (.agg [(.int .i64 0), (.int .i64 0), (.int .i64 0), (.nil .slice)] : TV τ).isAgg = i.agg := ⟨ti51, rfl, rfl, CW.of_eq (by kernel_rfl), rfl⟩
theorem zok52 : ∃ i, E.ty 52 = some i ∧ (.agg [(.int .i64 0), (.int .i64 0), (.int .i64 0), (.agg [(.agg [(.int .i64 0), (.int .i64 0)]), (.int .i64 0), (.int .i64 0), (.int .i64 0), (.str []), (.str []), (.str [])]), (.int .i64 0), (.int .i64 0), (.nil .slice), (.agg [(.int .i64 0), (.arr 3 8 (Vector.replicate 8 (default : Int))), (.arr 2 8 (Vector.replicate 8 (default : Int))), (.arr 3 8 (Vector.replicate 8 (default : Int)))]), (.int .i64 0), (.arr 2 8 (Vector.replicate 8 (default : Int))), (.int .i64 0), (.agg [(.int .i64 0), (.int .i64 0), (.int .i64 0), (.nil .slice)]), (.int .i64 0), (.int .i64 0), (.int .i64 0)] : TV τ).ok = true ∧ CW i.zero ((.agg [(.int .i64 0), (.int .i64 0), (.int .i64 0), (.agg [(.agg [(.int .i64 0), (.int .i64 0)]), (.int .i64 0), (.int .i64 0), (.int .i64 0), (.str []), (.str []), (.str [])]), (.int .i64 0), (.int .i64 0), (.nil .slice), (.agg [(.int .i64 0), (.arr 3 8 (Vector.replicate 8 (default : Int))), (.arr 2 8 (Vector.replicate 8 (default : Int))), (.arr 3 8 (Vector.replicate 8 (default : Int)))]), (.int .i64 0), (.arr 2 8 (Vector.replicate 8 (default : Int))), (.int .i64 0), (.agg [(.int .i64 0), (.int .i64 0), (.int .i64 0), (.nil .slice)]), (.int .i64 0), (.int .i64 0), (.int .i64 0)] : TV τ).cells C) ∧ (.agg [(.int .i64 0), (.int .i64 0), (.int .i64 0), (.agg [(.agg [(.int .i64 0), (.int .i64 0)]), (.int .i64 0), (.int .i64 0), (.int .i64 0), (.str []), (.str []), (.str [])]), (.int .i64 0), (.int .i64 0), (.nil .slice), (.agg [(.int .i64 0), (.arr 3 8 (Vector.replicate 8 (default : Int))), (.arr 2 8 (Vector.replicate 8 (default : Int))), (.arr 3 8 (Vector.replicate 8 (default : Int)))]), (.int .i64 0), (.arr 2 8 (Vector.replicate 8 (default : Int))), (.int .i64 0), (.agg [(.int .i64 0), (.int .i64 0), (.int .i64 0), (.nil .slice)]), (.int .i64 0), (.int .i64 0), (.int .i64 0)] : TV τ).isAgg = i.agg := ⟨ti52, rfl, rfl, CW.of_eq (by kernel_rfl), rfl⟩
theorem zok53 : ∃ i, E.ty 53 = some i ∧ (.agg [(.int .i64 0), (.int .i64 0), (.int .i64 0), (.agg [(.agg [(.int .i64 0), (.int .i64 0)]), (.int .i64 0), (.int .i64 0), (.int .i64 0), (.str []), (.str []), (.str [])]), (.int .i64 0), (.int .i64 0), (.nil .slice), (.agg [(.int .i64 0), (.arr 3 8 (Vector.replicate 8 (default : Int))), (.arr 2 8 (Vector.replicate 8 (default : Int))), (.arr 3 8 (Vector.replicate 8 (default : Int)))]), (.int .i64 0), (.arr 2 8 (Vector.replicate 8 (default : Int))), (.int .i64 0), (.agg [(.int .i64 0), (.int .i64 0), (.int .i64 0), (.nil .slice)]), (.int .i64 0), (.int .i64 0), (.int .i64 0)] : TV τ).ok = true ∧ CW i.zero ((.agg [(.int .i64 0), (.int .i64 0), (.int .i64 0), (.agg [(.agg [(.int .i64 0), (.int .i64 0)]), (.int .i64 0), (.int .i64 0), (.int .i64 0), (.str []), (.str []), (.str [])]), (.int .i64 0), (.int .i64 0), (.nil .slice), (.agg [(.int .i64 0), (.arr 3 8 (Vector.replicate 8 (default : Int))), (.arr 2 8 (Vector.replicate 8 (default : Int))), (.arr 3 8 (Vector.replicate 8 (default : Int)))]), (.int .i64 0), (.arr 2 8 (Vector.replicate 8 (default : Int))), (.int .i64 0), (.agg [(.int .i64 0), (.int .i64 0), (.int .i64 0), (.nil .slice)]), (.int .i64 0), (.int .i64 0), (.int .i64 0)] : TV τ).cells C) ∧ (.agg [(.int .i64 0), (.int .i64 0), (.int .i64 0), (.agg [(.agg [(.int .i64 0), (.int .i64 0)]), (.int .i64 0), (.int .i64 0), (.int .i64 0), (.str []), (.str []), (.str [])]), (.int .i64 0), (.int .i64 0), (.nil .slice), (.agg [(.int .i64 0), (.arr 3 8 (Vector.replicate 8 (default : Int))), (.arr 2 8 (Vector.replicate 8 (default : Int))), (.arr 3 8 (Vector.replicate 8 (default : Int)))]), (.int .i64 0), (.arr 2 8 (Vector.replicate 8 (default : Int))), (.int .i64 0), (.agg [(.int .i64 0), (.int .i64 0), (.int .i64 0), (.nil .slice)]), (.int .i64 0), (.int .i64 0), (.int .i64 0)] : TV τ).isAgg = i.agg := ⟨ti53, rfl, rfl, CW.of_eq (by kernel_rfl), rfl⟩
theorem zok54 : ∃ i, E.ty 54 = some i ∧ (.agg [(.int .i64 0), (.agg [(.int .i64 0), (.int .i64 0)]), (.agg [(.int .i64 0), (.int .i64 0)]), (.agg [(.int .i64 0), (.int .i64 0)]), (.int .i64 0), (.nil .slice), (.agg [(.int .i64 0), (.int .i64 0), (.int .i64 0), (.agg [(.agg [(.int .i64 0), (.int .i64 0)]), (.int .i64 0), (.int .i64 0), (.int .i64 0), (.str []), (.str []), (.str [])]), (.int .i64 0), (.int .i64 0), (.nil .slice), (.agg [(.int .i64 0), (.arr 3 8 (Vector.replicate 8 (default : Int))), (.arr 2 8 (Vector.replicate 8 (default : Int))), (.arr 3 8 (Vector.replicate 8 (default : Int)))]), (.int .i64 0), (.arr 2 8 (Vector.replicate 8 (default : Int))), (.int .i64 0), (.agg [(.int .i64 0), (.int .i64 0), (.int .i64 0), (.nil .slice)]), (.int .i64 0), (.int .i64 0), (.int .i64 0)]), (.int .i64 0), (.arr 2 8 (Vector.replicate 8 (default : Int))), (.int .i64 0), (.int .i64 0), (.nil .slice), (.agg [(.int .i64 0), (.arr 3 8 (Vector.replicate 8 (default : Int))), (.arr 2 8 (Vector.replicate 8 (default : Int))), (.arr 3 8 (Vector.replicate 8 (default : Int)))]), (.agg [(.int .i64 0), (.int .i64 0), (.int .i64 0), (.nil .slice)])] : TV τ).ok = true ∧ CW i.zero ((.agg [(.int .i64 0), (.agg [(.int .i64 0), (.int .i64 0)]), (.agg [(.int .i64 0), (.int .i64 0)]), (.agg [(.int .i64 0), (.int .i64 0)]), (.int .i64 0), (.nil .slice), (.agg [(.int .i64 0), (.int .i64 0), (.int .i64 0), (.agg [(.agg [(.int .i64 0), (.int .i64 0)]), (.int .i64 0), (.int .i64 0), (.int .i64 0), (.str []), (.str []), (.str [])]), (.int .i64 0), (.int .i64 0), (.nil .slice), (.agg [(.int .i64 0), (.arr 3 8 (Vector.replicate 8 (default : Int))), (.arr 2 8 (Vector.replicate 8 (default : Int))), (.arr 3 8 (Vector.replicate 8 (default : Int)))]), (.int .i64 0), (.arr 2 8 (Vector.replicate 8 (default : Int))), (.int .i64 0), (.agg [(.int .i64 0), (.int .i64 0), (.int .i64 0), (.nil .slice)]), (.int .i64 0), (.int .i64 0), (.int .i64 0)]), (.int .i64 0), (.arr 2 8 (Vector.replicate 8 (default : Int))), (.int .i64 0), (.int .i64 0), (.nil .slice), (.agg [(.int .i64 0), (.arr 3 8 (Vector.replicate 8 (default : Int))), (.arr 2 8 (Vector.replicate 8 (default : Int))), (.arr 3 8 (Vector.replicate 8 (default : Int)))]), (.agg [(.int .i64 0), (.int .i64 0), (.int .i64 0), (.nil .slice)])] : TV τ).cells C) ∧ (.agg [(.int .i64 0), (.agg [(.int .i64 0), (.int .i64 0)]), (.agg [(.int .i64 0), (.int .i64 0)]), (.agg [(.int .i64 0), (.int .i64 0)]), (.int .i64 0), (.nil .slice), (.agg [(.int .i64 0), (.int .i64 0), (.int .i64 0), (.agg [(.agg [(.int .i64 0), (.int .i64 0)]), (.int .i64 0), (.int .i64 0), (.int .i64 0), (.str []), (.str []), (.str [])]), (.int .i64 0), (.int .i64 0), (.nil .slice), (.agg [(.int .i64 0), (.arr 3 8 (Vector.replicate 8 (default : Int))), (.arr 2 8 (Vector.replicate 8 (default : Int))), (.arr 3 8 (Vector.replicate 8 (default : Int)))]), (.int .i64 0), (.arr 2 8 (Vector.replicate 8 (default : Int))), (.int .i64 0), (.agg [(.int .i64 0), (.int .i64 0), (.int .i64 0), (.nil .slice)]), (.int .i64 0), (.int .i64 0), (.int .i64 0)]), (.int .i64 0), (.arr 2 8 (Vector.replicate 8 (default : Int))), (.int .i64 0), (.int .i64 0), (.nil .slice), (.agg [(.int .i64 0), (.arr 3 8 (Vector.replicate 8 (default : Int))), (.arr 2 8 (Vector.replicate 8 (default : Int))), (.arr 3 8 (Vector.replicate 8 (default : Int)))]), (.agg [(.int .i64 0), (.int .i64 0), (.int .i64 0), (.nil .slice)])] : TV τ).isAgg = i.agg := ⟨ti54, rfl, rfl, CW.of_eq (by kernel_rfl), rfl⟩
theorem zok55 : ∃ i, E.ty 55 = some i ∧ (.agg [(.int .i64 0), (.agg [(.int .i64 0), (.int .i64 0)]), (.agg [(.int .i64 0), (.int .i64 0)]), (.agg [(.int .i64 0), (.int .i64 0)]), (.int .i64 0), (.nil .slice), (.agg [(.int .i64 0), (.int .i64 0), (.int .i64 0), (.agg [(.agg [(.int .i64 0), (.int .i64 0)]), (.int .i64 0), (.int .i64 0), (.int .i64 0), (.str []), (.str []), (.str [])]), (.int .i64 0), (.int .i64 0), (.nil .slice), (.agg [(.int .i64 0), (.arr 3 8 (Vector.replicate 8 (default : Int))), (.arr 2 8 (Vector.replicate 8 (default : Int))), (.arr 3 8 (Vector.replicate 8 (default : Int)))]), (.int .i64 0), (.arr 2 8 (Vector.replicate 8 (default : Int))), (.int .i64 0), (.agg [(.int .i64 0), (.int .i64 0), (.int .i64 0), (.nil .slice)]), (.int .i64 0), (.int .i64 0), (.int .i64 0)]), (.int .i64 0), (.arr 2 8 (Vector.replicate 8 (default : Int))), (.int .i64 0), (.int .i64 0), (.nil .slice), (.agg [(.int .i64 0), (.arr 3 8 (Vector.replicate 8 (default : Int))), (.arr 2 8 (Vector.replicate 8 (default : Int))), (.arr 3 8 (Vector.replicate 8 (default : Int)))]), (.agg [(.int .i64 0), (.int .i64 0), (.int .i64 0), (.nil .slice)])] : TV τ).ok = true ∧ CW i.zero ((.agg [(.int .i64 0), (.agg [(.int .i64 0), (.int .i64 0)]), (.agg [(.int .i64 0), (.int .i64 0)]), (.agg [(.int .i64 0), (.int .i64 0)]), (.int .i64 0), (.nil .slice), (.agg [(.int .i64 0), (.int .i64 0), (.int .i64 0), (.agg [(.agg [(.int .i64 0), (.int .i64 0)]), (.int .i64 0), (.int .i64 0), (.int .i64 0), (.str []), (.str []), (.str [])]), (.int .i64 0), (.int .i64 0), (.nil .slice), (.agg [(.int .i64 0), (.arr 3 8 (Vector.replicate 8 (default : Int))), (.arr 2 8 (Vector.replicate 8 (default : Int))), (.arr 3 8 (Vector.replicate 8 (default : Int)))]), (.int .i64 0), (.arr 2 8 (Vector.replicate 8 (default : Int))), (.int .i64 0), (.agg [(.int .i64 0), (.int .i64 0), (.int .i64 0), (.nil .slice)]), (.int .i64 0), (.int .i64 0), (.int .i64 0)]), (.int .i64 0), (.arr 2 8 (Vector.replicate 8 (default : Int))), (.int .i64 0), (.int .i64 0), (.nil .slice), (.agg [(.int .i64 0), (.arr 3 8 (Vector.replicate 8 (default : Int))), (.arr 2 8 (Vector.replicate 8 (default : Int))), (.arr 3 8 (Vector.replicate 8 (default : Int)))]), (.agg [(.int .i64 0), (.int .i64 0), (.int .i64 0), (.nil .slice)])] : TV τ).cells C) ∧ (.agg [(.int .i64 0), (.agg [(.int .i64 0), (.int .i64 0)]), (.agg [(.int .i64 0), (.int .i64 0)]), (.agg [(.int .i64 0), (.int .i64 0)]), (.int .i64 0), (.nil .slice), (.agg [(.int .i64 0), (.int .i64 0), (.int .i64 0), (.agg [(.agg [(.int .i64 0), (.int .i64 0)]), (.int .i64 0), (.int .i64 0), (.int .i64 0), (.str []), (.str []), (.str [])]), (.int .i64 0), (.int .i64 0), (.nil .slice), (.agg [(.int .i64 0), (.arr 3 8 (Vector.replicate 8 (default : Int))), (.arr 2 8 (Vector.replicate 8 (default : Int))), (.arr 3 8 (Vector.replicate 8 (default : Int)))]), (.int .i64 0), (.arr 2 8 (Vector.replicate 8 (default : Int))), (.int .i64 0), (.agg [(.int .i64 0), (.int .i64 0), (.int .i64 0), (.nil .slice)]), (.int .i64 0), (.int .i64 0), (.int .i64 0)]), (.int .i64 0), (.arr 2 8 (Vector.replicate 8 (default : Int))), (.int .i64 0), (.int .i64 0), (.nil .slice), (.agg [(.int .i64 0), (.arr 3 8 (Vector.replicate 8 (default : Int))), (.arr 2 8 (Vector.replicate 8 (default : Int))), (.arr 3 8 (Vector.replicate 8 (default : Int)))]), (.agg [(.int .i64 0), (.int .i64 0), (.int .i64 0), (.nil .slice)])] : TV τ).isAgg = i.agg := ⟨ti55, rfl, rfl, CW.of_eq (by kernel_rfl), rfl⟩
theorem zok56 : ∃ i, E.ty 56 = some i ∧ (.int .i64 0 : TV τ).ok = true ∧ CW i.zero ((.int .i64 0 : TV τ).cells C) ∧ (.int .i64 0 : TV τ).isAgg = i.agg := ⟨ti56, rfl, rfl, CW.of_eq (by kernel_rfl), rfl⟩
theorem zok58 : ∃ i, E.ty 58 = some i ∧ (.nil .func : TV τ).ok = true ∧ CW i.zero ((.nil .func : TV τ).cells C) ∧ (.nil .func : TV τ).isAgg = i.agg := ⟨ti58, rfl, rfl, CW.of_eq (by kernel_rfl), rfl⟩
theorem zok59 : ∃ i, E.ty 59 = some i ∧ (.nil .func : TV τ).ok = true ∧ CW i.zero ((.nil .func : TV τ).cells C) ∧ (.nil .func : TV τ).isAgg = i.agg := ⟨ti59, rfl, rfl, CW.of_eq (by kernel_rfl), rfl⟩
theorem zok60 : ∃ i, E.ty 60 = some i ∧ (.nil .slice : TV τ).ok = true ∧ CW i.zero ((.nil .slice : TV τ).cells C) ∧ (.nil .slice : TV τ).isAgg = i.agg := ⟨ti60, rfl, rfl, CW.of_eq (by kernel_rfl), rfl⟩
theorem zok61 : ∃ i, E.ty 61 = some i ∧ (.nil .func : TV τ).ok = true ∧ CW i.zero ((.nil .func : TV τ).cells C) ∧ (.nil .func : TV τ).isAgg = i.agg := ⟨ti61, rfl, rfl, CW.of_eq (by kernel_rfl), rfl⟩
theorem zok62 : ∃ i, E.ty 62 = some i ∧ (.nil .func : TV τ).ok = true ∧ CW i.zero ((.nil .func : TV τ).cells C) ∧ (.nil .func : TV τ).isAgg = i.agg := ⟨ti62, rfl, rfl, CW.of_eq (by kernel_rfl), rfl⟩
theorem zok63 : ∃ i, E.ty 63 = some i ∧ (.nil .func : TV τ).ok = true ∧ CW i.zero ((.nil .func : TV τ).cells C) ∧ (.nil .func : TV τ).isAgg = i.agg := ⟨ti63, rfl, rfl, CW.of_eq (by kernel_rfl), rfl⟩
theorem zok64 : ∃ i, E.ty 64 = some i ∧ (.nil .func : TV τ).ok = true ∧ CW i.zero ((.nil .func : TV τ).cells C) ∧ (.nil .func : TV τ).isAgg = i.agg := ⟨ti64, rfl, rfl, CW.of_eq (by kernel_rfl), rfl⟩
theorem zok65 : ∃ i, E.ty 65 = some i ∧ (.nil .slice : TV τ).ok = true ∧ CW i.zero ((.nil .slice : TV τ).cells C) ∧ (.nil .slice : TV τ).isAgg = i.agg := ⟨ti65, rfl, rfl, CW.of_eq (by kernel_rfl), rfl⟩
theorem zok66 : ∃ i, E.ty 66 = some i ∧ (.nil .func : TV τ).ok = true ∧ CW i.zero ((.nil .func : TV τ).cells C) ∧ (.nil .func : TV τ).isAgg = i.agg := ⟨ti66, rfl, rfl, CW.of_eq (by kernel_rfl), rfl⟩
theorem zok67 : ∃ i, E.ty 67 = some i ∧ (.nil .func : TV τ).ok = true ∧ CW i.zero ((.nil .func : TV τ).cells C) ∧ (.nil .func : TV τ).isAgg = i.agg := ⟨ti67, rfl, rfl, CW.of_eq (by kernel_rfl), rfl⟩
theorem zok68 : ∃ i, E.ty 68 = some i ∧ (.nil .func : TV τ).ok = true ∧ CW i.zero ((.nil .func : TV τ).cells C) ∧ (.nil .func : TV τ).isAgg = i.agg := ⟨ti68, rfl, rfl, CW.of_eq (by kernel_rfl), rfl⟩
theorem zok69 : ∃ i, E.ty 69 = some i ∧ (.nil .func : TV τ).ok = true ∧ CW i.zero ((.nil .func : TV τ).cells C) ∧ (.nil .func : TV τ).isAgg = i.agg := ⟨ti69, rfl, rfl, CW.of_eq (by kernel_rfl), rfl⟩
theorem zok70 : ∃ i, E.ty 70 = some i ∧ (.nil .func : TV τ).ok = true ∧ CW i.zero ((.nil .func : TV τ).cells C) ∧ (.nil .func : TV τ).isAgg = i.agg := ⟨ti70, rfl, rfl, CW.of_eq (by kernel_rfl), rfl⟩
theorem zok71 : ∃ i, E.ty 71 = some i ∧ (.nil .func : TV τ).ok = true ∧ CW i.zero ((.nil .func : TV τ).cells C) ∧ (.nil .func : TV τ).isAgg = i.agg := ⟨ti71, rfl, rfl, CW.of_eq (by kernel_rfl), rfl⟩
theorem zok72 : ∃ i, E.ty 72 = some i ∧ (.nil .func : TV τ).ok = true ∧ CW i.zero ((.nil .func : TV τ).cells C) ∧ (.nil .func : TV τ).isAgg = i.agg := ⟨ti72, rfl, rfl, CW.of_eq (by kernel_rfl), rfl⟩
theorem zok74 : ∃ i, E.ty 74 = some i ∧ (.nil .func : TV τ).ok = true ∧ CW i.zero ((.nil .func : TV τ).cells C) ∧ (.nil .func : TV τ).isAgg = i.agg := ⟨ti74, rfl, rfl, CW.of_eq (by kernel_rfl), rfl⟩
theorem zok75 : ∃ i, E.ty 75 = some i ∧ (.nil .func : TV τ).ok = true ∧ CW i.zero ((.nil .func : TV τ).cells C) ∧ (.nil .func : TV τ).isAgg = i.agg := ⟨ti75, rfl, rfl, CW.of_eq (by kernel_rfl), rfl⟩
theorem zok76 : ∃ i, E.ty 76 = some i ∧ (.nil .func : TV τ).ok = true ∧ CW i.zero ((.nil .func : TV τ).cells C) ∧ (.nil .func : TV τ).isAgg = i.agg := ⟨ti76, rfl, rfl, CW.of_eq (by kernel_rfl), rfl⟩
theorem zok77 : ∃ i, E.ty 77 = some i ∧ (.nil .func : TV τ).ok = true ∧ CW i.zero ((.nil .func : TV τ).cells C) ∧ (.nil .func : TV τ).isAgg = i.agg := ⟨ti77, rfl, rfl, CW.of_eq (by kernel_rfl), rfl⟩
theorem zok78 : ∃ i, E.ty 78 = some i ∧ (.nil .func : TV τ).ok = true ∧ CW i.zero ((.nil .func : TV τ).cells C) ∧ (.nil .func : TV τ).isAgg = i.agg := ⟨ti78, rfl, rfl, CW.of_eq (by kernel_rfl), rfl⟩
theorem zok79 : ∃ i, E.ty 79 = some i ∧ (.nil .func : TV τ).ok = true ∧ CW i.zero ((.nil .func : TV τ).cells C) ∧ (.nil .func : TV τ).isAgg = i.agg := ⟨ti79, rfl, rfl, CW.of_eq (by kernel_rfl), rfl⟩
theorem zok80 : ∃ i, E.ty 80 = some i ∧ (.nil .func : TV τ).ok = true ∧ CW i.zero ((.nil .func : TV τ).cells C) ∧ (.nil .func : TV τ).isAgg = i.agg := ⟨ti80, rfl, rfl, CW.of_eq (by kernel_rfl), rfl⟩
theorem zok81 : ∃ i, E.ty 81 = some i ∧ (.nil .func : TV τ).ok = true ∧ CW i.zero ((.nil .func : TV τ).cells C) ∧ (.nil .func : TV τ).isAgg = i.agg := ⟨ti81, rfl, rfl, CW.of_eq (by kernel_rfl), rfl⟩
theorem zok82 : ∃ i, E.ty 82 = some i ∧ (.nil .func : TV τ).ok = true ∧ CW i.zero ((.nil .func : TV τ).cells C) ∧ (.nil .func : TV τ).isAgg = i.agg := ⟨ti82, rfl, rfl, CW.of_eq (by kernel_rfl), rfl⟩
theorem zok83 : ∃ i, E.ty 83 = some i ∧ (.nil .func : TV τ).ok = true ∧ CW i.zero ((.nil .func : TV τ).cells C) ∧ (.nil .func : TV τ).isAgg = i.agg := ⟨ti83, rfl, rfl, CW.of_eq (by kernel_rfl), rfl⟩
theorem zok84 : ∃ i, E.ty 84 = some i ∧ (.nil .func : TV τ).ok = true ∧ CW i.zero ((.nil .func : TV τ).cells C) ∧ (.nil .func : TV τ).isAgg = i.agg := ⟨ti84, rfl, rfl, CW.of_eq (by kernel_rfl), rfl⟩
theorem zok85 : ∃ i, E.ty 85 = some i ∧ (.nil .func : TV τ).ok = true ∧ CW i.zero ((.nil .func : TV τ).cells C) ∧ (.nil .func : TV τ).isAgg = i.agg := ⟨ti85, rfl, rfl, CW.of_eq (by kernel_rfl), rfl⟩
theorem zok86 : ∃ i, E.ty 86 = some i ∧ (.nil .func : TV τ).ok = true ∧ CW i.zero ((.nil .func : TV τ).cells C) ∧ (.nil .func : TV τ).isAgg = i.agg := ⟨ti86, rfl, rfl, CW.of_eq (by kernel_rfl), rfl⟩
theorem zok87 : ∃ i, E.ty 87 = some i ∧ (.nil .func : TV τ).ok = true ∧ CW i.zero ((.nil .func : TV τ).cells C) ∧ (.nil .func : TV τ).isAgg = i.agg := ⟨ti87, rfl, rfl, CW.of_eq (by kernel_rfl), rfl⟩
theorem zok88 : ∃ i, E.ty 88 = some i ∧ (.nil .func : TV τ).ok = true ∧ CW i.zero ((.nil .func : TV τ).cells C) ∧ (.nil .func : TV τ).isAgg = i.agg := ⟨ti88, rfl, rfl, CW.of_eq (by kernel_rfl), rfl⟩
theorem zok89 : ∃ i, E.ty 89 = some i ∧ (.nil .func : TV τ).ok = true ∧ CW i.zero ((.nil .func : TV τ).cells C) ∧ (.nil .func : TV τ).isAgg = i.agg := ⟨ti89, rfl, rfl, CW.of_eq (by kernel_rfl), rfl⟩
theorem zok90 : ∃ i, E.ty 90 = some i ∧ (.nil .func : TV τ).ok = true ∧ CW i.zero ((.nil .func : TV τ).cells C) ∧ (.nil .func : TV τ).isAgg = i.agg := ⟨ti90, rfl, rfl, CW.of_eq (by kernel_rfl), rfl⟩
theorem zok91 : ∃ i, E.ty 91 = some i ∧ (.nil .func : TV τ).ok = true ∧ CW i.zero ((.nil .func : TV τ).cells C) ∧ (.nil .func : TV τ).isAgg = i.agg := ⟨ti91, rfl, rfl, CW.of_eq (by kernel_rfl), rfl⟩
theorem zok92 : ∃ i, E.ty 92 = some i ∧ (.nil .func : TV τ).ok = true ∧ CW i.zero ((.nil .func : TV τ).cells C) ∧ (.nil .func : TV τ).isAgg = i.agg := ⟨ti92, rfl, rfl, CW.of_eq (by kernel_rfl), rfl⟩
theorem zok93 : ∃ i, E.ty 93 = some i ∧ (.nil .func : TV τ).ok = true ∧ CW i.zero ((.nil .func : TV τ).cells C) ∧ (.nil .func : TV τ).isAgg = i.agg := ⟨ti93, rfl, rfl, CW.of_eq (by kernel_rfl), rfl⟩
theorem zok94 : ∃ i, E.ty 94 = some i ∧ (.nil .func : TV τ).ok = true ∧ CW i.zero ((.nil .func : TV τ).cells C) ∧ (.nil .func : TV τ).isAgg = i.agg := ⟨ti94, rfl, rfl, CW.of_eq (by kernel_rfl), rfl⟩
theorem zok95 : ∃ i, E.ty 95 = some i ∧ (.nil .func : TV τ).ok = true ∧ CW i.zero ((.nil .func : TV τ).cells C) ∧ (.nil .func : TV τ).isAgg = i.agg := ⟨ti95, rfl, rfl, CW.of_eq (by kernel_rfl), rfl⟩
theorem zok96 : ∃ i, E.ty 96 = some i ∧ (.nil .slice : TV τ).ok = true ∧ CW i.zero ((.nil .slice : TV τ).cells C) ∧ (.nil .slice : TV τ).isAgg = i.agg := ⟨ti96, rfl, rfl, CW.of_eq (by kernel_rfl), rfl⟩
theorem zok97 : ∃ i, E.ty 97 = some i ∧ (.agg [(.int .i64 0), (.int .i64 0), (.str []), (.nil .slice)] : TV τ).ok = true ∧ CW i.zero ((.agg [(.int .i64 0), (.int .i64 0), (.str []), (.nil .slice)] : TV τ).cells C) ∧ (.agg [(.int .i64 0), (.int .i64 0), (.str []), (.nil .slice)] : TV τ).isAgg = i.agg := ⟨ti97, rfl, rfl, CW.of_eq (by kernel_rfl), rfl⟩
theorem zok98 : ∃ i, E.ty 98 = some i ∧ (.agg [(.int .i64 0), (.int .i64 0), (.str []), (.nil .slice)] : TV τ).ok = true ∧ CW i.zero ((.agg [(.int .i64 0), (.int .i64 0), (.str []), (.nil .slice)] : TV τ).cells C) ∧ (.agg [(.int .i64 0), (.int .i64 0), (.str []), (.nil .slice)] : TV τ).isAgg = i.agg := ⟨ti98, rfl, rfl, CW.of_eq (by kernel_rfl), rfl⟩
theorem zok99 : ∃ i, E.ty 99 = some i ∧ (.nil .func : TV τ).ok = true ∧ CW i.zero ((.nil .func : TV τ).cells C) ∧ (.nil .func : TV τ).isAgg = i.agg := ⟨ti99, rfl, rfl, CW.of_eq (by kernel_rfl), rfl⟩
theorem zok100 : ∃ i, E.ty 100 = some i ∧ (.agg [(.int .i64 0), (.agg [(.int .i64 0), (.int .i64 0)]), (.agg [(.int .i64 0), (.int .i64 0), (.int .i64 0), (.agg [(.agg [(.int .i64 0), (.int .i64 0)]), (.int .i64 0), (.int .i64 0), (.int .i64 0), (.str []), (.str []), (.str [])]), (.int .i64 0), (.int .i64 0), (.nil .slice), (.agg [(.int .i64 0), (.arr 3 8 (Vector.replicate 8 (default : Int))), (.arr 2 8 (Vector.replicate 8 (default : Int))), (.arr 3 8 (Vector.replicate 8 (default : Int)))]), (.int .i64 0), (.arr 2 8 (Vector.replicate 8 (default : Int))), (.int .i64 0), (.agg [(.int .i64 0), (.int .i64 0), (.int .i64 0), (.nil .slice)]), (.int .i64 0), (.int .i64 0), (.int .i64 0)])] : TV τ).ok = true ∧ CW i.zero ((.agg [(.int .i64 0), (.agg [(.int .i64 0), (.int .i64 0)]), (.agg [(.int .i64 0), (.int .i64 0), (.int .i64 0), (.agg [(.agg [(.int .i64 0), (.int .i64 0)]), (.int .i64 0), (.int .i64 0), (.int .i64 0), (.str []), (.str []), (.str [])]), (.int .i64 0), (.int .i64 0), (.nil .slice), (.agg [(.int .i64 0), (.arr 3 8 (Vector.replicate 8 (default : Int))), (.arr 2 8 (Vector.replicate 8 (default : Int))), (.arr 3 8 (Vector.replicate 8 (default : Int)))]), (.int .i64 0), (.arr 2 8 (Vector.replicate 8 (default : Int))), (.int .i64 0), (.agg [(.int .i64 0), (.int .i64 0), (.int .i64 0), (.nil .slice)]), (.int .i64 0), (.int .i64 0), (.int .i64 0)])] : TV τ).cells C) ∧ (.agg [(.int .i64 0), (.agg [(.int .i64 0), (.int .i64 0)]), (.agg [(.int .i64 0), (.int .i64 0), (.int .i64 0), (.agg [(.agg [(.int .i64 0), (.int .i64 0)]), (.int .i64 0), (.int .i64 0), (.int .i64 0), (.str []), (.str []), (.str [])]), (.int .i64 0), (.int .i64 0), (.nil .slice), (.agg [(.int .i64 0), (.arr 3 8 (Vector.replicate 8 (default : Int))), (.arr 2 8 (Vector.replicate 8 (default : Int))), (.arr 3 8 (Vector.replicate 8 (default : Int)))]), (.int .i64 0), (.arr 2 8 (Vector.replicate 8 (default : Int))), (.int .i64 0), (.agg [(.int .i64 0), (.int .i64 0), (.int .i64 0), (.nil .slice)]), (.int .i64 0), (.int .i64 0), (.int .i64 0)])] : TV τ).isAgg = i.agg := ⟨ti100, rfl, rfl, CW.of_eq (by kernel_rfl), rfl⟩
theorem zok101 : ∃ i, E.ty 101 = some i ∧ (.agg [(.int .i64 0), (.agg [(.int .i64 0), (.int .i64 0)]), (.agg [(.int .i64 0), (.int .i64 0), (.int .i64 0), (.agg [(.agg [(.int .i64 0), (.int .i64 0)]), (.int .i64 0), (.int .i64 0), (.int .i64 0), (.str []), (.str []), (.str [])]), (.int .i64 0), (.int .i64 0), (.nil .slice), (.agg [(.int .i64 0), (.arr 3 8 (Vector.replicate 8 (default : Int))), (.arr 2 8 (Vector.replicate 8 (default : Int))), (.arr 3 8 (Vector.replicate 8 (default : Int)))]), (.int .i64 0), (.arr 2 8 (Vector.replicate 8 (default : Int))), (.int .i64 0), (.agg [(.int .i64 0), (.int .i64 0), (.int .i64 0), (.nil .slice)]), (.int .i64 0), (.int .i64 0), (.int .i64 0)])] : TV τ).ok = true ∧ CW i.zero ((.agg [(.int .i64 0), (.agg [(.int .i64 0), (.int .i64 0)]), (.agg [(.int .i64 0), (.int .i64 0), (.int .i64 0), (.agg [(.agg [(.int .i64 0), (.int .i64 0)]), (.int .i64 0), (.int .i64 0), (.int .i64 0), (.str []), (.str []), (.str [])]), (.int .i64 0), (.int .i64 0), (.nil .slice), (.agg [(.int .i64 0), (.arr 3 8 (Vector.replicate 8 (default : Int))), (.arr 2 8 (Vector.replicate 8 (default : Int))), (.arr 3 8 (Vector.replicate 8 (default : Int)))]), (.int .i64 0), (.arr 2 8 (Vector.replicate 8 (default : Int))), (.int .i64 0), (.agg [(.int .i64 0), (.int .i64 0), (.int .i64 0), (.nil .slice)]), (.int .i64 0), (.int .i64 0), (.int .i64 0)])] : TV τ).cells C) ∧ (.agg [(.int .i64 0), (.agg [(.int .i64 0), (.int .i64 0)]), (.agg [(.int .i64 0), (.int .i64 0), (.int .i64 0), (.agg [(.agg [(.int .i64 0), (.int .i64 0)]), (.int .i64 0), (.int .i64 0), (.int .i64 0), (.str []), (.str []), (.str [])]), (.int .i64 0), (.int .i64 0), (.nil .slice), (.agg [(.int .i64 0), (.arr 3 8 (Vector.replicate 8 (default : Int))), (.arr 2 8 (Vector.replicate 8 (default : Int))), (.arr 3 8 (Vector.replicate 8 (default : Int)))]), (.int .i64 0), (.arr 2 8 (Vector.replicate 8 (default : Int))), (.int .i64 0), (.agg [(.int .i64 0), (.int .i64 0), (.int .i64 0), (.nil .slice)]), (.int .i64 0), (.int .i64 0), (.int .i64 0)])] : TV τ).isAgg = i.agg := ⟨ti101, rfl, rfl, CW.of_eq (by kernel_rfl), rfl⟩
theorem zok102 : ∃ i, E.ty 102 = some i ∧ (.nil .slice : TV τ).ok = true ∧ CW i.zero ((.nil .slice : TV τ).cells C) ∧ (.nil .slice : TV τ).isAgg = i.agg := ⟨ti102, rfl, rfl, CW.of_eq (by kernel_rfl), rfl⟩
theorem zok103 : ∃ i, E.ty 103 = some i ∧ (.nil .func : TV τ).ok = true ∧ CW i.zero ((.nil .func : TV τ).cells C) ∧ (.nil .func : TV τ).isAgg = i.agg := ⟨ti103, rfl, rfl, CW.of_eq (by kernel_rfl), rfl⟩
theorem zok104 : ∃ i, E.ty 104 = some i ∧ (.nil .func : TV τ).ok = true ∧ CW i.zero ((.nil .func : TV τ).cells C) ∧ (.nil .func : TV τ).isAgg = i.agg := ⟨ti104, rfl, rfl, CW.of_eq (by kernel_rfl), rfl⟩
theorem zok105 : ∃ i, E.ty 105 = some i ∧ (.nil .func : TV τ).ok = true ∧ CW i.zero ((.nil .func : TV τ).cells C) ∧ (.nil .func : TV τ).isAgg = i.agg := ⟨ti105, rfl, rfl, CW.of_eq (by kernel_rfl), rfl⟩
theorem zok106 : ∃ i, E.ty 106 = some i ∧ (.nil .func : TV τ).ok = true ∧ CW i.zero ((.nil .func : TV τ).cells C) ∧ (.nil .func : TV τ).isAgg = i.agg := ⟨ti106, rfl, rfl, CW.of_eq (by kernel_rfl), rfl⟩
theorem zok107 : ∃ i, E.ty 107 = some i ∧ (.nil .slice : TV τ).ok = true ∧ CW i.zero ((.nil .slice : TV τ).cells C) ∧ (.nil .slice : TV τ).isAgg = i.agg := ⟨ti107, rfl, rfl, CW.of_eq (by kernel_rfl), rfl⟩
theorem zok108 : ∃ i, E.ty 108 = some i ∧ (.nil .func : TV τ).ok = true ∧ CW i.zero ((.nil .func : TV τ).cells C) ∧ (.nil .func : TV τ).isAgg = i.agg := ⟨ti108, rfl, rfl, CW.of_eq (by kernel_rfl), rfl⟩
theorem zok109 : ∃ i, E.ty 109 = some i ∧ (.nil .func : TV τ).ok = true ∧ CW i.zero ((.nil .func : TV τ).cells C) ∧ (.nil .func : TV τ).isAgg = i.agg := ⟨ti109, rfl, rfl, CW.of_eq (by kernel_rfl), rfl⟩
theorem zok110 : ∃ i, E.ty 110 = some i ∧ (.nil .func : TV τ).ok = true ∧ CW i.zero ((.nil .func : TV τ).cells C) ∧ (.nil .func : TV τ).isAgg = i.agg := ⟨ti110, rfl, rfl, CW.of_eq (by kernel_rfl), rfl⟩
theorem zok111 : ∃ i, E.ty 111 = some i ∧ (.nil .func : TV τ).ok = true ∧ CW i.zero ((.nil .func : TV τ).cells C) ∧ (.nil .func : TV τ).isAgg = i.agg := ⟨ti111, rfl, rfl, CW.of_eq (by kernel_rfl), rfl⟩
theorem zok112 : ∃ i, E.ty 112 = some i ∧ (.nil .func : TV τ).ok = true ∧ CW i.zero ((.nil .func : TV τ).cells C) ∧ (.nil .func : TV τ).isAgg = i.agg := ⟨ti112, rfl, rfl, CW.of_eq (by kernel_rfl), rfl⟩
theorem zok113 : ∃ i, E.ty 113 = some i ∧ (.nil .func : TV τ).ok = true ∧ CW i.zero ((.nil .func : TV τ).cells C) ∧ (.nil .func : TV τ).isAgg = i.agg := ⟨ti113, rfl, rfl, CW.of_eq (by kernel_rfl), rfl⟩
theorem zok114 : ∃ i, E.ty 114 = some i ∧ (.nil .func : TV τ).ok = true ∧ CW i.zero ((.nil .func : TV τ).cells C) ∧ (.nil .func : TV τ).isAgg = i.agg := ⟨ti114, rfl, rfl, CW.of_eq (by kernel_rfl), rfl⟩
theorem zok115 : ∃ i, E.ty 115 = some i ∧ (.nil .slice : TV τ).ok = true ∧ CW i.zero ((.nil .slice : TV τ).cells C) ∧ (.nil .slice : TV τ).isAgg = i.agg := ⟨ti115, rfl, rfl, CW.of_eq (by kernel_rfl), rfl⟩
theorem zok116 : ∃ i, E.ty 116 = some i ∧ (.nil .ptr : TV τ).ok = true ∧ CW i.zero ((.nil .ptr : TV τ).cells C) ∧ (.nil .ptr : TV τ).isAgg = i.agg := ⟨ti116, rfl, rfl, CW.of_eq (by kernel_rfl), rfl⟩
theorem zok118 : ∃ i, E.ty 118 = some i ∧ (.nil .func : TV τ).ok = true ∧ CW i.zero ((.nil .func : TV τ).cells C) ∧ (.nil .func : TV τ).isAgg = i.agg := ⟨ti118, rfl, rfl, CW.of_eq (by kernel_rfl), rfl⟩
theorem zok119 : ∃ i, E.ty 119 = some i ∧ (.nil .func : TV τ).ok = true ∧ CW i.zero ((.nil .func : TV τ).cells C) ∧ (.nil .func : TV τ).isAgg = i.agg := ⟨ti119, rfl, rfl, CW.of_eq (by kernel_rfl), rfl⟩
theorem zok120 : ∃ i, E.ty 120 = some i ∧ (.nil .func : TV τ).ok = true ∧ CW i.zero ((.nil .func : TV τ).cells C) ∧ (.nil .func : TV τ).isAgg = i.agg := ⟨ti120, rfl, rfl, CW.of_eq (by kernel_rfl), rfl⟩
theorem zok121 : ∃ i, E.ty 121 = some i ∧ (.nil .func : TV τ).ok = true ∧ CW i.zero ((.nil .func : TV τ).cells C) ∧ (.nil .func : TV τ).isAgg = i.agg := ⟨ti121, rfl, rfl, CW.of_eq (by kernel_rfl), rfl⟩
theorem zok122 : ∃ i, E.ty 122 = some i ∧ (.nil .func : TV τ).ok = true ∧ CW i.zero ((.nil .func : TV τ).cells C) ∧ (.nil .func : TV τ).isAgg = i.agg := ⟨ti122, rfl, rfl, CW.of_eq (by kernel_rfl), rfl⟩
theorem zok123 : ∃ i, E.ty 123 = some i ∧ (.nil .func : TV τ).ok = true ∧ CW i.zero ((.nil .func : TV τ).cells C) ∧ (.nil .func : TV τ).isAgg = i.agg := ⟨ti123, rfl, rfl, CW.of_eq (by kernel_rfl), rfl⟩
theorem zok124 : ∃ i, E.ty 124 = some i ∧ (.nil .func : TV τ).ok = true ∧ CW i.zero ((.nil .func : TV τ).cells C) ∧ (.nil .func : TV τ).isAgg = i.agg := ⟨ti124, rfl, rfl, CW.of_eq (by kernel_rfl), rfl⟩
theorem zok125 : ∃ i, E.ty 125 = some i ∧ (.nil .func : TV τ).ok = true ∧ CW i.zero ((.nil .func : TV τ).cells C) ∧ (.nil .func : TV τ).isAgg = i.agg := ⟨ti125, rfl, rfl, CW.of_eq (by kernel_rfl), rfl⟩
theorem zok126 : ∃ i, E.ty 126 = some i ∧ (.nil .slice : TV τ).ok = true ∧ CW i.zero ((.nil .slice : TV τ).cells C) ∧ (.nil .slice : TV τ).isAgg = i.agg := ⟨ti126, rfl, rfl, CW.of_eq (by kernel_rfl), rfl⟩
theorem zok127 : ∃ i, E.ty 127 = some i ∧ (.nil .func : TV τ).ok = true ∧ CW i.zero ((.nil .func : TV τ).cells C) ∧ (.nil .func : TV τ).isAgg = i.agg := ⟨ti127, rfl, rfl, CW.of_eq (by kernel_rfl), rfl⟩
theorem zok128 : ∃ i, E.ty 128 = some i ∧ (.nil .func : TV τ).ok = true ∧ CW i.zero ((.nil .func : TV τ).cells C) ∧ (.nil .func : TV τ).isAgg = i.agg := ⟨ti128, rfl, rfl, CW.of_eq (by kernel_rfl), rfl⟩
theorem zok129 : ∃ i, E.ty 129 = some i ∧ (.nil .func : TV τ).ok = true ∧ CW i.zero ((.nil .func : TV τ).cells C) ∧ (.nil .func : TV τ).isAgg = i.agg := ⟨ti129, rfl, rfl, CW.of_eq (by kernel_rfl), rfl⟩
theorem zok131 : ∃ i, E.ty 131 = some i ∧ (.nil .func : TV τ).ok = true ∧ CW i.zero ((.nil .func : TV τ).cells C) ∧ (.nil .func : TV τ).isAgg = i.agg := ⟨ti131, rfl, rfl, CW.of_eq (by kernel_rfl), rfl⟩
theorem zok132 : ∃ i, E.ty 132 = some i ∧ (.nil .func : TV τ).ok = true ∧ CW i.zero ((.nil .func : TV τ).cells C) ∧ (.nil .func : TV τ).isAgg = i.agg := ⟨ti132, rfl, rfl, CW.of_eq (by kernel_rfl), rfl⟩
theorem zok133 : ∃ i, E.ty 133 = some i ∧ (.nil .func : TV τ).ok = true ∧ CW i.zero ((.nil .func : TV τ).cells C) ∧ (.nil .func : TV τ).isAgg = i.agg := ⟨ti133, rfl, rfl, CW.of_eq (by kernel_rfl), rfl⟩
theorem zok134 : ∃ i, E.ty 134 = some i ∧ (.nil .func : TV τ).ok = true ∧ CW i.zero ((.nil .func : TV τ).cells C) ∧ (.nil .func : TV τ).isAgg = i.agg := ⟨ti134, rfl, rfl, CW.of_eq (by kernel_rfl), rfl⟩
theorem zok135 : ∃ i, E.ty 135 = some i ∧ (.nil .func : TV τ).ok = true ∧ CW i.zero ((.nil .func : TV τ).cells C) ∧ (.nil .func : TV τ).isAgg = i.agg := ⟨ti135, rfl, rfl, CW.of_eq (by kernel_rfl), rfl⟩
theorem zok136 : ∃ i, E.ty 136 = some i ∧ (.nil .func : TV τ).ok = true ∧ CW i.zero ((.nil .func : TV τ).cells C) ∧ (.nil .func : TV τ).isAgg = i.agg := ⟨ti136, rfl, rfl, CW.of_eq (by kernel_rfl), rfl⟩
theorem zok137 : ∃ i, E.ty 137 = some i ∧ (.nil .func : TV τ).ok = true ∧ CW i.zero ((.nil .func : TV τ).cells C) ∧ (.nil .func : TV τ).isAgg = i.agg := ⟨ti137, rfl, rfl, CW.of_eq (by kernel_rfl), rfl⟩
theorem zok138 : ∃ i, E.ty 138 = some i ∧ (.nil .slice : TV τ).ok = true ∧ CW i.zero ((.nil .slice : TV τ).cells C) ∧ (.nil .slice : TV τ).isAgg = i.agg := ⟨ti138, rfl, rfl, CW.of_eq (by kernel_rfl), rfl⟩
theorem zok139 : ∃ i, E.ty 139 = some i ∧ (.nil .func : TV τ).ok = true ∧ CW i.zero ((.nil .func : TV τ).cells C) ∧ (.nil .func : TV τ).isAgg = i.agg := ⟨ti139, rfl, rfl, CW.of_eq (by kernel_rfl), rfl⟩
theorem zok141 : ∃ i, E.ty 141 = some i ∧ (.nil .func : TV τ).ok = true ∧ CW i.zero ((.nil .func : TV τ).cells C) ∧ (.nil .func : TV τ).isAgg = i.agg := ⟨ti141, rfl, rfl, CW.of_eq (by kernel_rfl), rfl⟩
theorem zok142 : ∃ i, E.ty 142 = some i ∧ (.nil .func : TV τ).ok = true ∧ CW i.zero ((.nil .func : TV τ).cells C) ∧ (.nil .func : TV τ).isAgg = i.agg := ⟨ti142, rfl, rfl, CW.of_eq (by kernel_rfl), rfl⟩
theorem zok143 : ∃ i, E.ty 143 = some i ∧ (.nil .func : TV τ).ok = true ∧ CW i.zero ((.nil .func : TV τ).cells C) ∧ (.nil .func : TV τ).isAgg = i.agg := ⟨ti143, rfl, rfl, CW.of_eq (by kernel_rfl), rfl⟩
theorem zok144 : ∃ i, E.ty 144 = some i ∧ (.nil .func : TV τ).ok = true ∧ CW i.zero ((.nil .func : TV τ).cells C) ∧ (.nil .func : TV τ).isAgg = i.agg := ⟨ti144, rfl, rfl, CW.of_eq (by kernel_rfl), rfl⟩
theorem zok145 : ∃ i, E.ty 145 = some i ∧ (.nil .func : TV τ).ok = true ∧ CW i.zero ((.nil .func : TV τ).cells C) ∧ (.nil .func : TV τ).isAgg = i.agg := ⟨ti145, rfl, rfl, CW.of_eq (by kernel_rfl), rfl⟩
theorem zok146 : ∃ i, E.ty 146 = some i ∧ (.nil .func : TV τ).ok = true ∧ CW i.zero ((.nil .func : TV τ).cells C) ∧ (.nil .func : TV τ).isAgg = i.agg := ⟨ti146, rfl, rfl, CW.of_eq (by kernel_rfl), rfl⟩
theorem zok147 : ∃ i, E.ty 147 = some i ∧ (.nil .func : TV τ).ok = true ∧ CW i.zero ((.nil .func : TV τ).cells C) ∧ (.nil .func : TV τ).isAgg = i.agg := ⟨ti147, rfl, rfl, CW.of_eq (by kernel_rfl), rfl⟩
theorem zok148 : ∃ i, E.ty 148 = some i ∧ (.nil .func : TV τ).ok = true ∧ CW i.zero ((.nil .func : TV τ).cells C) ∧ (.nil .func : TV τ).isAgg = i.agg := ⟨ti148, rfl, rfl, CW.of_eq (by kernel_rfl), rfl⟩
theorem zok149 : ∃ i, E.ty 149 = some i ∧ (.nil .func : TV τ).ok = true ∧ CW i.zero ((.nil .func : TV τ).cells C) ∧ (.nil .func : TV τ).isAgg = i.agg := ⟨ti149, rfl, rfl, CW.of_eq (by kernel_rfl), rfl⟩
theorem zok150 : ∃ i, E.ty 150 = some i ∧ (.nil .slice : TV τ).ok = true ∧ CW i.zero ((.nil .slice : TV τ).cells C) ∧ (.nil .slice : TV τ).isAgg = i.agg := ⟨ti150, rfl, rfl, CW.of_eq (by kernel_rfl), rfl⟩
theorem zok151 : ∃ i, E.ty 151 = some i ∧ (.agg [(.nil .slice), (.nil .slice)] : TV τ).ok = true ∧ CW i.zero ((.agg [(.nil .slice), (.nil .slice)] : TV τ).cells C) ∧ (.agg [(.nil .slice), (.nil .slice)] : TV τ).isAgg = i.agg := ⟨ti151, rfl, rfl, CW.of_eq (by kernel_rfl), rfl⟩
theorem zok152 : ∃ i, E.ty 152 = some i ∧ (.agg [(.nil .slice), (.nil .slice)] : TV τ).ok = true ∧ CW i.zero ((.agg [(.nil .slice), (.nil .slice)] : TV τ).cells C) ∧ (.agg [(.nil .slice), (.nil .slice)] : TV τ).isAgg = i.agg := ⟨ti152, rfl, rfl, CW.of_eq (by kernel_rfl), rfl⟩
theorem zok154 : ∃ i, E.ty 154 = some i ∧ (.nil .func : TV τ).ok = true ∧ CW i.zero ((.nil .func : TV τ).cells C) ∧ (.nil .func : TV τ).isAgg = i.agg := ⟨ti154, rfl, rfl, CW.of_eq (by kernel_rfl), rfl⟩
theorem zok155 : ∃ i, E.ty 155 = some i ∧ (.nil .func : TV τ).ok = true ∧ CW i.zero ((.nil .func : TV τ).cells C) ∧ (.nil .func : TV τ).isAgg = i.agg := ⟨ti155, rfl, rfl, CW.of_eq (by kernel_rfl), rfl⟩
theorem zok156 : ∃ i, E.ty 156 = some i ∧ (.agg [(.int .i64 0), (.agg [(.int .i64 0), (.int .i64 0)]), (.int .i64 0)] : TV τ).ok = true ∧ CW i.zero ((.agg [(.int .i64 0), (.agg [(.int .i64 0), (.int .i64 0)]), (.int .i64 0)] : TV τ).cells C) ∧ (.agg [(.int .i64 0), (.agg [(.int .i64 0), (.int .i64 0)]), (.int .i64 0)] : TV τ).isAgg = i.agg := ⟨ti156, rfl, rfl, CW.of_eq (by kernel_rfl), rfl⟩
theorem zok157 : ∃ i, E.ty 157 = some i ∧ (.agg [(.int .i64 0), (.agg [(.int .i64 0), (.int .i64 0)]), (.int .i64 0)] : TV τ).ok = true ∧ CW i.zero ((.agg [(.int .i64 0), (.agg [(.int .i64 0), (.int .i64 0)]), (.int .i64 0)] : TV τ).cells C) ∧ (.agg [(.int .i64 0), (.agg [(.int .i64 0), (.int .i64 0)]), (.int .i64 0)] : TV τ).isAgg = i.agg := ⟨ti157, rfl, rfl, CW.of_eq (by kernel_rfl), rfl⟩
theorem zok158 : ∃ i, E.ty 158 = some i ∧ (.agg [(.int .i64 0), (.int .i64 0), (.agg [(.int .i64 0), (.agg [(.int .i64 0), (.int .i64 0)]), (.int .i64 0)])] : TV τ).ok = true ∧ CW i.zero ((.agg [(.int .i64 0), (.int .i64 0), (.agg [(.int .i64 0), (.agg [(.int .i64 0), (.int .i64 0)]), (.int .i64 0)])] : TV τ).cells C) ∧ (.agg [(.int .i64 0), (.int .i64 0), (.agg [(.int .i64 0), (.agg [(.int .i64 0), (.int .i64 0)]), (.int .i64 0)])] : TV τ).isAgg = i.agg := ⟨ti158, rfl, rfl, CW.of_eq (by kernel_rfl), rfl⟩
theorem zok159 : ∃ i, E.ty 159 = some i ∧ (.agg [(.int .i64 0), (.int .i64 0), (.agg [(.int .i64 0), (.agg [(.int .i64 0), (.int .i64 0)]), (.int .i64 0)])] : TV τ).ok = true ∧ CW i.zero ((.agg [(.int .i64 0), (.int .i64 0), (.agg [(.int .i64 0), (.agg [(.int .i64 0), (.int .i64 0)]), (.int .i64 0)])] : TV τ).cells C) ∧ (.agg [(.int .i64 0), (.int .i64 0), (.agg [(.int .i64 0), (.agg [(.int .i64 0), (.int .i64 0)]), (.int .i64 0)])] : TV τ).isAgg = i.agg := ⟨ti159, rfl, rfl, CW.of_eq (by kernel_rfl), rfl⟩
theorem zok160 : ∃ i, E.ty 160 = some i ∧ (.nil .func : TV τ).ok = true ∧ CW i.zero ((.nil .func : TV τ).cells C) ∧ (.nil .func : TV τ).isAgg = i.agg := ⟨ti160, rfl, rfl, CW.of_eq (by kernel_rfl), rfl⟩
theorem zok161 : ∃ i, E.ty 161 = some i ∧ (.nil .func : TV τ).ok = true ∧ CW i.zero ((.nil .func : TV τ).cells C) ∧ (.nil .func : TV τ).isAgg = i.agg := ⟨ti161, rfl, rfl, CW.of_eq (by kernel_rfl), rfl⟩
theorem zok162 : ∃ i, E.ty 162 = some i ∧ (.nil .func : TV τ).ok = true ∧ CW i.zero ((.nil .func : TV τ).cells C) ∧ (.nil .func : TV τ).isAgg = i.agg := ⟨ti162, rfl, rfl, CW.of_eq (by kernel_rfl), rfl⟩
theorem zok163 : ∃ i, E.ty 163 = some i ∧ (.nil .func : TV τ).ok = true ∧ CW i.zero ((.nil .func : TV τ).cells C) ∧ (.nil .func : TV τ).isAgg = i.agg := ⟨ti163, rfl, rfl, CW.of_eq (by kernel_rfl), rfl⟩
theorem zok164 : ∃ i, E.ty 164 = some i ∧ (.nil .func : TV τ).ok = true ∧ CW i.zero ((.nil .func : TV τ).cells C) ∧ (.nil .func : TV τ).isAgg = i.agg := ⟨ti164, rfl, rfl, CW.of_eq (by kernel_rfl), rfl⟩
theorem zok165 : ∃ i, E.ty 165 = some i ∧ (.nil .func : TV τ).ok = true ∧ CW i.zero ((.nil .func : TV τ).cells C) ∧ (.nil .func : TV τ).isAgg = i.agg := ⟨ti165, rfl, rfl, CW.of_eq (by kernel_rfl), rfl⟩
theorem zok166 : ∃ i, E.ty 166 = some i ∧ (.nil .func : TV τ).ok = true ∧ CW i.zero ((.nil .func : TV τ).cells C) ∧ (.nil .func : TV τ).isAgg = i.agg := ⟨ti166, rfl, rfl, CW.of_eq (by kernel_rfl), rfl⟩
theorem zok167 : ∃ i, E.ty 167 = some i ∧ (.nil .func : TV τ).ok = true ∧ CW i.zero ((.nil .func : TV τ).cells C) ∧ (.nil .func : TV τ).isAgg = i.agg := ⟨ti167, rfl, rfl, CW.of_eq (by kernel_rfl), rfl⟩
theorem zok168 : ∃ i, E.ty 168 = some i ∧ (.agg [(.str []), (.str [])] : TV τ).ok = true ∧ CW i.zero ((.agg [(.str []), (.str [])] : TV τ).cells C) ∧ (.agg [(.str []), (.str [])] : TV τ).isAgg = i.agg := ⟨ti168, rfl, rfl, CW.of_eq (by kernel_rfl), rfl⟩
theorem zok169 : ∃ i, E.ty 169 = some i ∧ (.agg [(.str []), (.str [])] : TV τ).ok = true ∧ CW i.zero ((.agg [(.str []), (.str [])] : TV τ).cells C) ∧ (.agg [(.str []), (.str [])] : TV τ).isAgg = i.agg := ⟨ti169, rfl, rfl, CW.of_eq (by kernel_rfl), rfl⟩
theorem zok170 : ∃ i, E.ty 170 = some i ∧ (.nil .func : TV τ).ok = true ∧ CW i.zero ((.nil .func : TV τ).cells C) ∧ (.nil .func : TV τ).isAgg = i.agg := ⟨ti170, rfl, rfl, CW.of_eq (by kernel_rfl), rfl⟩
theorem zok171 : ∃ i, E.ty 171 = some i ∧ (.nil .func : TV τ).ok = true ∧ CW i.zero ((.nil .func : TV τ).cells C) ∧ (.nil .func : TV τ).isAgg = i.agg := ⟨ti171, rfl, rfl, CW.of_eq (by kernel_rfl), rfl⟩
theorem zok172 : ∃ i, E.ty 172 = some i ∧ (.nil .func : TV τ).ok = true ∧ CW i.zero ((.nil .func : TV τ).cells C) ∧ (.nil .func : TV τ).isAgg = i.agg := ⟨ti172, rfl, rfl, CW.of_eq (by kernel_rfl), rfl⟩
theorem zok173 : ∃ i, E.ty 173 = some i ∧ (.nil .func : TV τ).ok = true ∧ CW i.zero ((.nil .func : TV τ).cells C) ∧ (.nil .func : TV τ).isAgg = i.agg := ⟨ti173, rfl, rfl, CW.of_eq (by kernel_rfl), rfl⟩
theorem zok174 : ∃ i, E.ty 174 = some i ∧ (.nil .func : TV τ).ok = true ∧ CW i.zero ((.nil .func : TV τ).cells C) ∧ (.nil .func : TV τ).isAgg = i.agg := ⟨ti174, rfl, rfl, CW.of_eq (by kernel_rfl), rfl⟩
theorem zok175 : ∃ i, E.ty 175 = some i ∧ (.int .u64 0 : TV τ).ok = true ∧ CW i.zero ((.int .u64 0 : TV τ).cells C) ∧ (.int .u64 0 : TV τ).isAgg = i.agg := ⟨ti175, rfl, rfl, CW.of_eq (by kernel_rfl), rfl⟩
theorem zok176 : ∃ i, E.ty 176 = some i ∧ (.int .u32 0 : TV τ).ok = true ∧ CW i.zero ((.int .u32 0 : TV τ).cells C) ∧ (.int .u32 0 : TV τ).isAgg = i.agg := ⟨ti176, rfl, rfl, CW.of_eq (by kernel_rfl), rfl⟩
theorem zok178 : ∃ i, E.ty 178 = some i ∧ (.nil .func : TV τ).ok = true ∧ CW i.zero ((.nil .func : TV τ).cells C) ∧ (.nil .func : TV τ).isAgg = i.agg := ⟨ti178, rfl, rfl, CW.of_eq (by kernel_rfl), rfl⟩
theorem zok179 : ∃ i, E.ty 179 = some i ∧ (.nil .func : TV τ).ok = true ∧ CW i.zero ((.nil .func : TV τ).cells C) ∧ (.nil .func : TV τ).isAgg = i.agg := ⟨ti179, rfl, rfl, CW.of_eq (by kernel_rfl), rfl⟩
theorem zok185 : ∃ i, E.ty 185 = some i ∧ (.nil .func : TV τ).ok = true ∧ CW i.zero ((.nil .func : TV τ).cells C) ∧ (.nil .func : TV τ).isAgg = i.agg := ⟨ti185, rfl, rfl, CW.of_eq (by kernel_rfl), rfl⟩
theorem zok189 : ∃ i, E.ty 189 = some i ∧ (.nil .ptr : TV τ).ok = true ∧ CW i.zero ((.nil .ptr : TV τ).cells C) ∧ (.nil .ptr : TV τ).isAgg = i.agg := ⟨ti189, rfl, rfl, CW.of_eq (by kernel_rfl), rfl⟩
noncomputable def D0 : TEnv τ := ⟨E, C, zeroT⟩
theorem zeroOk : ∀ t x, zeroT t = some x → ∃ i, E.ty t = some i ∧ x.ok = true ∧ CW i.zero (x.cells C) ∧ x.isAgg = i.agg := by
  intro t x h
  unfold zeroT at h
  split at h <;> first
    | (cases h; first | exact zok1 | exact zok2 | exact zok3 | exact zok4 | exact zok5 | exact zok9 | exact zok12 | exact zok17 | exact zok21 | exact zok22 | exact zok23 | exact zok24 | exact zok25 | exact zok26 | exact zok27 | exact zok28 | exact zok29 | exact zok30 | exact zok31 | exact zok32 | exact zok33 | exact zok34 | exact zok35 | exact zok36 | exact zok37 | exact zok38 | exact zok39 | exact zok40 | exact zok41 | exact zok42 | exact zok43 | exact zok44 | exact zok45 | exact zok46 | exact zok47 | exact zok48 | exact zok49 | exact zok50 | exact zok51 | exact zok52 | exact zok53 | exact zok54 | exact zok55 | exact zok56 | exact zok58 | exact zok59 | exact zok60 | exact zok61 | exact zok62 | exact zok63 | exact zok64 | exact zok65 | exact zok66 | exact zok67 | exact zok68 | exact zok69 | exact zok70 | exact zok71 | exact zok72 | exact zok74 | exact zok75 | exact zok76 | exact zok77 | exact zok78 | exact zok79 | exact zok80 | exact zok81 | exact zok82 | exact zok83 | exact zok84 | exact zok85 | exact zok86 | exact zok87 | exact zok88 | exact zok89 | exact zok90 | exact zok91 | exact zok92 | exact zok93 | exact zok94 | exact zok95 | exact zok96 | exact zok97 | exact zok98 | exact zok99 | exact zok100 | exact zok101 | exact zok102 | exact zok103 | exact zok104 | exact zok105 | exact zok106 | exact zok107 | exact zok108 | exact zok109 | exact zok110 | exact zok111 | exact zok112 | exact zok113 | exact zok114 | exact zok115 | exact zok116 | exact zok118 | exact zok119 | exact zok120 | exact zok121 | exact zok122 | exact zok123 | exact zok124 | exact zok125 | exact zok126 | exact zok127 | exact zok128 | exact zok129 | exact zok131 | exact zok132 | exact zok133 | exact zok134 | exact zok135 | exact zok136 | exact zok137 | exact zok138 | exact zok139 | exact zok141 | exact zok142 | exact zok143 | exact zok144 | exact zok145 | exact zok146 | exact zok147 | exact zok148 | exact zok149 | exact zok150 | exact zok151 | exact zok152 | exact zok154 | exact zok155 | exact zok156 | exact zok157 | exact zok158 | exact zok159 | exact zok160 | exact zok161 | exact zok162 | exact zok163 | exact zok164 | exact zok165 | exact zok166 | exact zok167 | exact zok168 | exact zok169 | exact zok170 | exact zok171 | exact zok172 | exact zok173 | exact zok174 | exact zok175 | exact zok176 | exact zok178 | exact zok179 | exact zok185 | exact zok189)
    | cases h
theorem d0Ok : D0.Ok := ⟨eOk, eEq, cOk, zeroOk⟩
end Go.Proofs.Ytekpjhhbmjcbmaa
