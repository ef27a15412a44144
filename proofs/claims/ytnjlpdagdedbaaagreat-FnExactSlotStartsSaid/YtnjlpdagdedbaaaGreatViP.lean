import Derived.Test.YtnjlpdagdedbaaaGreatViO
/- Regions whose order is open: an operation hangs on its foot alone. -/
namespace Go.VE

section
variable {P : Program} {Γ : TypeId → Option Ty} {T : Tbl} {σ τ : AS}

theorem rdAt_agree {t : TypeId} {p : PV} (h : ∀ b ∈ boxOfP p, σ.box b = τ.box b) : rdAt P σ.box t p = rdAt P τ.box t p := by
  cases p <;> simp only [rdAt] <;> rw [h _ (by simp [boxOfP])]
theorem stAt_agree {t : TypeId} {v p : PV} (h : ∀ b ∈ boxOfP p, σ.box b = τ.box b) : stAt P σ.box t v p = stAt P τ.box t v p := by
  cases p <;> simp only [stAt] <;> rw [h _ (by simp [boxOfP])]
theorem rslv1_agree {p : PV} (h : ∀ b ∈ msOfP p, σ.box b = τ.box b) : rslv1 σ.box p = rslv1 τ.box p := by
  cases p with
  | ms id => simp only [rslv1]; rw [h _ (by simp [msOfP])]
  | mn id i j => simp only [rslv1]; rw [h _ (by simp [msOfP])]
  | _ => rfl
theorem rslvA_agree {p : PV} (h : ∀ b ∈ msOfP p, σ.box b = τ.box b) : rslvA σ.box p = rslvA τ.box p := by
  cases p with
  | ms id => simp only [rslvA]; rw [h _ (by simp [msOfP])]
  | _ => rfl
theorem rslvL_agree : ∀ (ps : List PV), (∀ b ∈ msIds ps, σ.box b = τ.box b) → ps.map (rslv1 σ.box) = ps.map (rslv1 τ.box)
  | [], _ => rfl
  | p :: ps, h => by
    simp only [List.map_cons]
    rw [rslv1_agree (p := p) fun b hb => h b (by cases p <;> simp [msOfP] at hb <;> subst hb <;> simp [msIds]), rslvL_agree ps fun b hb => h b (by cases p <;> simp [msIds, hb])]
theorem rslv_agree {p : PV} (h : ∀ b ∈ rfIdsL [p], σ.box b = τ.box b) : rslv σ.box p = rslv τ.box p := by
  cases p with
  | agg cs => simp only [rslv]; rw [rslvL_agree cs fun b hb => h b (by simp [rfIdsL, hb])]
  | ms id => exact rslv1_agree (p := .ms id) fun b hb => h b (by simpa [msOfP, rfIdsL] using hb)
  | mn id i j => exact rslv1_agree (p := .mn id i j) fun b hb => h b (by simpa [msOfP, rfIdsL] using hb)
  | _ => rfl
theorem lenOf_agree {t : TypeId} {p : PV} (h : ∀ b ∈ msOfP p, σ.box b = τ.box b) : lenOf P t σ.box p = lenOf P t τ.box p := by
  cases p with
  | ms id =>
    have := h id (by simp [msOfP])
    cases hu : P.underlying t with
    | none => simp [lenOf, hu]
    | some d => cases d <;> simp [lenOf, hu, this]
  | mn id i j =>
    have := h id (by simp [msOfP])
    cases hu : P.underlying t with
    | none => simp [lenOf, hu]
    | some d => cases d <;> simp [lenOf, hu, this]
  | _ =>
    cases hu : P.underlying t with
    | none => simp [lenOf, hu]
    | some d => cases d <;> simp [lenOf, hu]

theorem winC_agree {t : Ty} {p : PV} (h : ∀ b ∈ rfIdsL [p], σ.box b = τ.box b) : winC σ.box t p = winC τ.box t p := by
  cases p with
  | bx id off => simp only [winC]; rw [h _ (by simp [rfIdsL])]
  | _ => rfl

theorem unCaps_agree : ∀ (ts : List Ty) (ps : List PV), (∀ b ∈ rfIdsL ps, σ.box b = τ.box b) → unCaps σ.box ts ps = unCaps τ.box ts ps
  | [], ps, _ => by cases ps <;> rfl
  | t :: r, [], _ => rfl
  | t :: r, p :: ps, h => by
    simp only [unCaps]
    rw [winC_agree (p := p) (fun b hb => h b (by cases p <;> simp [rfIdsL] at hb ⊢ <;> exact .inl hb)), unCaps_agree r ps (fun b hb => h b (by cases p <;> simp [rfIdsL, hb]))]

theorem unIns_agree : ∀ (is : List In) (ps : List PV), (∀ b ∈ ptIds is ps, σ.box b = τ.box b) → (∀ b ∈ rfIds is ps, σ.box b = τ.box b) → unIns σ.box is ps = unIns τ.box is ps
  | [], ps, _, _ => by cases ps <;> rfl
  | i :: r, [], _, _ => rfl
  | i :: r, p :: ps, h1, h2 => by
    simp only [unIns]
    have e1 : unIn σ.box i p = unIn τ.box i p := by
      cases i with
      | v t =>
        simp only [unIn]
        rw [rslv_agree fun b hb => h2 b (by simp only [rfIds]; exact List.mem_append_left _ hb)]
      | rf t =>
        simp only [unIn]
        exact winC_agree fun b hb => h2 b (by simp only [rfIds]; exact List.mem_append_left _ hb)
      | pt t =>
        cases p <;> simp only [unIn]
        rename_i id off
        simp only [winC]
        rw [h1 id (by simp [ptIds])]
      | ow t =>
        cases p <;> simp only [unIn]
        all_goals rw [h1 _ (by simp [ptIds])]
      | clo f ts =>
        cases p <;> simp only [unIn]
        rename_i f' caps
        rw [unCaps_agree ts caps fun b hb => h2 b (by simp only [rfIds]; exact List.mem_append_left _ hb)]
    rw [e1, unIns_agree r ps (fun b hb => h1 b (by cases i <;> cases p <;> simp [ptIds, hb])) (fun b hb => h2 b (by cases i <;> cases p <;> simp [rfIds, hb]))]

theorem wb_agree : ∀ (is : List In) (ps : List PV) (y : PtT is), (∀ b ∈ ptIds is ps, σ.box b = τ.box b) → wb σ.box is ps y = wb τ.box is ps y
  | [], ps, y, _ => by cases ps <;> rfl
  | i :: r, [], y, _ => by cases i <;> rfl
  | .pt t :: r, p :: ps, y, h => by
    cases p <;> simp only [wb]
    all_goals first
      | (rename_i id off; rw [h id (by simp [ptIds]), wb_agree r ps y.2 (fun b hb => h b (by simp [ptIds, hb]))])
      | exact wb_agree r ps y.2 (fun b hb => h b (by simp [ptIds, hb]))
  | .ow t :: r, p :: ps, y, h => by
    cases p <;> simp only [wb]
    all_goals first
      | (rw [wb_agree r ps y.2 (fun b hb => h b (by simp [ptIds, hb]))]; done)
      | (rw [wb_agree r ps y.2 (fun b hb => h b (by simp [ptIds, hb])), h _ (by simp [ptIds])]; done)
      | exact wb_agree r ps y.2 (fun b hb => h b (by simp [ptIds, hb]))
  | .v t :: r, p :: ps, y, h => by
    cases p <;> simp only [wb] <;> exact wb_agree r ps y (fun b hb => h b (by simpa [ptIds] using hb))
  | .rf t :: r, p :: ps, y, h => by
    cases p <;> simp only [wb] <;> exact wb_agree r ps y (fun b hb => h b (by simpa [ptIds] using hb))
  | .clo f ts :: r, p :: ps, y, h => by
    cases p <;> simp only [wb] <;> exact wb_agree r ps y (fun b hb => h b (by simpa [ptIds] using hb))

theorem mem_ops {o : Oper} {x : Operand} (hc : ∀ c, o.op ≠ .call c) (h : x ∈ o.op.operands.toList) : x ∈ (match o.op with | .call c => c.operands.toList | op => op.operands.toList) := by
  split
  · rename_i c e; exact absurd e (hc c)
  · exact h

/-- The same operation in another state that looks alike at its foot. -/
theorem opD_agree {all : List Oper} {o : Oper} (hz : σ.off = τ.off) (hdp : σ.dp = τ.dp) (hT : ∀ p ∈ footT all o, AgreeAt p.1 σ τ) (hB : ∀ p ∈ footB T o σ.off σ.env, AgreeAt p.1 σ τ) (hnc : ∀ f args tys, o.op ≠ .call { callee := .value f, args, argTypes := tys }) : opD P Γ o σ = opD P Γ o τ := by
  have ev : ∀ x, x ∈ (match o.op with | .call c => c.operands.toList | op => op.operands.toList) → evO σ.env x = evO τ.env x := fun x hx => slot_agree hT hx
  cases ho : o.op with
  | move x => simp only [opD, ho]; rw [ev x (by simp [ho, Op.operands])]
  | assign x => simp only [opD, ho]; rw [ev x (by simp [ho, Op.operands])]
  | pick c x y => simp only [opD, ho]; rw [ev c (by simp [ho, Op.operands]), ev x (by simp [ho, Op.operands]), ev y (by simp [ho, Op.operands])]
  | alloc t =>
    simp only [opD, ho]
    cases hd : o.dst with
    | none => rfl
    | some d =>
      cases zeroOf P t with
      | none => rfl
      | some cs => simp only; rw [← hz, (hB (3 * (σ.off + d) + 1, true) (by simp [footB, ho, hd])).2.1 (σ.off + d) rfl]
  | box t x =>
    simp only [opD, ho]
    cases hd : o.dst with
    | none => rfl
    | some d => simp only; rw [← hz, (hB (3 * (σ.off + d) + 1, true) (by simp [footB, ho, hd])).2.1 (σ.off + d) rfl, ev x (by simp [ho, Op.operands])]
  | build t parts =>
    simp only [opD, ho]
    have : parts.toList.map (fun p => (p.1, evO σ.env p.2)) = parts.toList.map (fun p => (p.1, evO τ.env p.2)) := by
      refine List.map_congr_left fun p hp => ?_
      rw [ev p.2 (by simp only [ho, Op.operands]; exact List.mem_map.mpr ⟨p, hp, rfl⟩)]
    rw [this]
  | buildSlice t n parts =>
    simp only [opD, ho]
    have key : ∀ ty : Ty, (parts.toList.mapM fun p => unA ty (evO σ.env p.2).cel) = (parts.toList.mapM fun p => unA ty (evO τ.env p.2).cel) := by
      intro ty
      have h1 : ∀ l : List (Nat × Operand), (∀ p ∈ l, p ∈ parts.toList) → (l.mapM fun p => unA ty (evO σ.env p.2).cel) = (l.mapM fun p => unA ty (evO τ.env p.2).cel) := by
        intro l
        induction l with
        | nil => intro _; rfl
        | cons q r ih =>
          intro hl
          rw [List.mapM_cons, List.mapM_cons, ih (fun p hp => hl p (by simp [hp])), ev q.2 (by simp only [ho, Op.operands]; exact List.mem_map.mpr ⟨q, hl q (by simp), rfl⟩)]
      exact h1 _ fun _ h => h
    simp only [key]
  | load t x =>
    simp only [opD, ho]
    rw [← ev x (by simp [ho, Op.operands]), rdAt_agree fun b hb => (hB (3 * b + 1, false) (by simp only [footB, ho]; exact List.mem_map.mpr ⟨b, hb, rfl⟩)).2.1 b rfl]
  | store t x y =>
    simp only [opD, ho]
    rw [← ev x (by simp [ho, Op.operands]), ← ev y (by simp [ho, Op.operands]), stAt_agree fun b hb => (hB (3 * b + 1, true) (by simp only [footB, ho]; exact List.mem_map.mpr ⟨b, hb, rfl⟩)).2.1 b rfl]
  | nilCheck x => simp only [opD, ho]; rw [ev x (by simp [ho, Op.operands])]
  | binOp op t x y ty => simp only [opD, ho]; rw [ev x (by simp [ho, Op.operands]), ev y (by simp [ho, Op.operands])]
  | unOp op t x => simp only [opD, ho]; rw [ev x (by simp [ho, Op.operands])]
  | convert s d x => simp only [opD, ho]; rw [ev x (by simp [ho, Op.operands])]
  | makeFunc f first cap =>
    cases f <;> simp only [opD, ho]
    have : cap.toList.map (evO σ.env) = cap.toList.map (evO τ.env) := by
      refine List.map_congr_left fun p hp => ?_
      rw [ev p (by simp only [ho, Op.operands]; simp; exact .inr (by simpa using hp))]
    rw [this]
  | makeSlice t l c =>
    simp only [opD, ho]
    rw [ev l (by simp [ho, Op.operands]), ev c (by simp [ho, Op.operands])]
    cases hd : o.dst with
    | none => rfl
    | some d => simp only; rw [← hdp, ← hz, (hB (3 * (σ.off + d) + 1, true) (by simp [footB, ho, hd])).2.1 (σ.off + d) rfl]
  | range t x =>
    simp only [opD, ho]
    cases hd : o.dst with
    | none => rfl
    | some d =>
      have hb := (hB (3 * (σ.off + d) + 1, true) (by simp [footB, ho, hd])).2.1 (σ.off + d) rfl
      rw [ev x (by simp [ho, Op.operands])]
      cases P.underlying t with
      | none => rfl
      | some u => cases u <;> try rfl
                  cases evO τ.env x <;> try rfl
                  simp only [← hz, hb]
  | next it b =>
    cases b with
    | false => simp only [opD, ho]
    | true =>
      simp only [opD, ho]
      have e := ev it (by simp [ho, Op.operands])
      cases hp : evO σ.env it with
      | bx id off =>
        rw [← e, hp]
        cases off with
        | zero =>
          have hb := (hB (3 * id + 1, true) (by simp [footB, ho, hp, boxOfP])).2.1 id rfl
          simp only [hb]
        | succ n => rfl
      | _ => rw [← e, hp]
  | slice t x lo hi mx =>
    cases mx with
    | some m => simp only [opD, ho]
    | none =>
      simp only [opD, ho]
      have e1 : lo.map (evO σ.env) = lo.map (evO τ.env) := by
        cases lo with
        | none => rfl
        | some q => simp only [Option.map_some]; rw [ev q (by simp [ho, Op.operands])]
      have e2 : hi.map (evO σ.env) = hi.map (evO τ.env) := by
        cases hi with
        | none => rfl
        | some q => simp only [Option.map_some]; rw [ev q (by simp [ho, Op.operands])]
      rw [ev x (by simp [ho, Op.operands]), e1, e2]
  | fieldAddr s x f => simp only [opD, ho]; rw [ev x (by simp [ho, Op.operands])]
  | field s x f => simp only [opD, ho]; rw [ev x (by simp [ho, Op.operands])]
  | indexAddr t x i =>
    simp only [opD, ho]
    rw [← ev x (by simp [ho, Op.operands]), ← ev i (by simp [ho, Op.operands])]
    have : msBox σ.box (evO σ.env x) = msBox τ.box (evO σ.env x) := by
      cases hx : evO σ.env x with
      | ms id => simp only [msBox]; exact (hB (3 * id + 1, false) (by simp [footB, ho, hx, msOfP])).2.1 id rfl
      | _ => rfl
    rw [this]
  | index t x i => simp only [opD, ho]; rw [ev x (by simp [ho, Op.operands]), ev i (by simp [ho, Op.operands])]
  | extract x i => simp only [opD, ho]; rw [ev x (by simp [ho, Op.operands])]
  | call c =>
    obtain ⟨callee, args, tys⟩ := c
    cases callee with
    | value f => exact absurd ho (hnc _ _ _)
    | invoke r m => simp only [opD, ho]
    | builtin b =>
      have eva : ∀ x ∈ args.toList, evO σ.env x = evO τ.env x := fun x hx => ev x (by simp only [ho, Call.operands]; simpa using hx)
      have evm : args.toList.map (evO σ.env) = args.toList.map (evO τ.env) := List.map_congr_left eva
      cases b <;> simp only [opD, ho]
      · -- append
        cases hd : o.dst with
        | none => rfl
        | some d =>
          cases ha : args.toList with
          | nil => rfl
          | cons x r =>
            cases r with
            | nil => rfl
            | cons y r =>
              cases r with
              | cons z r => rfl
              | nil =>
                have e1 := eva x (by rw [ha]; simp)
                have e2 := eva y (by rw [ha]; simp)
                have hfoot : footB T o σ.off σ.env = (tokOfP (evO σ.env x)).map (fun k => (3 * k + 2, true)) ++ [σ.off + d].map (fun b => (3 * b + 2, true)) ++ (msOfP (evO σ.env y)).map fun b => (3 * b + 1, false) := by
                  simp [footB, ho, hd, ha]
                have hlv : σ.live (σ.off + d) = τ.live (σ.off + d) := (hB (3 * (σ.off + d) + 2, true) (by rw [hfoot]; simp)).2.2 (σ.off + d) rfl
                have hrs : rslvA σ.box (evO σ.env y) = rslvA τ.box (evO τ.env y) := by
                  rw [← e2]
                  exact rslvA_agree fun b hb => (hB (3 * b + 1, false) (by rw [hfoot]; exact List.mem_append_right _ (List.mem_map.mpr ⟨b, hb, rfl⟩))).2.1 b rfl
                have hap : ∀ ty, appD ty (σ.off + d) σ.live (evO σ.env x) (rslvA σ.box (evO σ.env y)) = appD ty (τ.off + d) τ.live (evO τ.env x) (rslvA τ.box (evO τ.env y)) := by
                  intro ty
                  rw [← e1, ← hrs, ← hz]
                  unfold appD
                  rw [hlv]
                  cases hx : evO σ.env x with
                  | sl t' l tk =>
                    cases tk with
                    | tok k =>
                      have : σ.live k = τ.live k := (hB (3 * k + 2, true) (by rw [hfoot, hx]; simp [tokOfP])).2.2 k rfl
                      simp only [this]
                    | own k =>
                      have : σ.live k = τ.live k := (hB (3 * k + 2, true) (by rw [hfoot, hx]; simp [tokOfP])).2.2 k rfl
                      simp only [this]
                    | _ => rfl
                  | _ => rfl
                cases ht : tys.toList with
                | nil => rfl
                | cons t r =>
                  cases r with
                  | nil => rfl
                  | cons u r =>
                    cases r with
                    | cons z r => rfl
                    | nil =>
                      simp only
                      cases elemOf P t with
                      | none => rfl
                      | some e =>
                        cases elemOf P u with
                        | none => simp only [← e1, ← e2, ← hz, hlv]
                        | some e' =>
                          simp only
                          cases Γ e with
                          | none => rfl
                          | some ty =>
                            cases bytesOf P e with
                            | none => rfl
                            | some b => simp only; rw [hap]
      · -- cap
        cases ha : args.toList with
        | nil => rfl
        | cons x r =>
          cases r with
          | cons z r => rfl
          | nil =>
            have e1 := eva x (by rw [ha]; simp)
            cases ht : tys.toList with
            | nil => rfl
            | cons t r =>
              cases r with
              | cons z r => rfl
              | nil => simp only [e1]
      · -- len
        cases ha : args.toList with
        | nil => rfl
        | cons x r =>
          cases r with
          | cons z r => rfl
          | nil =>
            have e1 := eva x (by rw [ha]; simp)
            cases ht : tys.toList with
            | nil => rfl
            | cons t r =>
              cases r with
              | cons z r => rfl
              | nil =>
                simp only
                rw [← e1, lenOf_agree fun b hb => (hB (3 * b + 1, false) (by
                  simp only [footB, ho, ha]
                  simp only [List.map_cons, List.map_nil, List.flatMap_cons, List.flatMap_nil, List.append_nil]
                  exact List.mem_map.mpr ⟨b, hb, rfl⟩)).2.1 b rfl]
      · rw [evm]
      · rw [evm]
  | _ => simp only [opD, ho]

theorem step_agree {all : List Oper} {o : Oper} {d : Dl} (hz : σ.off = τ.off) (hdp : σ.dp = τ.dp) (h : OpStep P Γ T o σ d) (hT : ∀ p ∈ footT all o, AgreeAt p.1 σ τ) (hB : ∀ p ∈ footB T o σ.off σ.env, AgreeAt p.1 σ τ) : OpStep P Γ T o τ d := by
  cases h with
  | op hc h => exact .op hc (by rw [← opD_agree (T := T) hz hdp hT hB hc]; exact h)
  | call ho hf hTf hx hn hd hfl hF hD =>
    rename_i f args tys gf cap c x y
    have ev : ∀ x, x ∈ (match o.op with | .call c => c.operands.toList | op => op.operands.toList) → evO σ.env x = evO τ.env x := fun x hx => slot_agree hT hx
    have e1 : evO σ.env f = evO τ.env f := ev f (by simp [ho, Call.operands])
    have e2 : args.toList.map (evO σ.env) = args.toList.map (evO τ.env) := List.map_congr_left fun p hp => ev p (by simp only [ho, Call.operands]; simp; exact .inr (by simpa using hp))
    have hfoot : footB T o σ.off σ.env = (ptIds c.ins (args.toList.map (evO σ.env) ++ cap)).map (fun b => (3 * b + 1, true)) ++ (rfIds c.ins (args.toList.map (evO σ.env) ++ cap)).map (fun b => (3 * b + 1, false)) ++ frFoot c (o.dst.toList.map (σ.off + ·)) := by
      simp only [footB, ho, hf, hTf]
    have hp : ∀ b ∈ ptIds c.ins (args.toList.map (evO σ.env) ++ cap), σ.box b = τ.box b := fun b hb => (hB (3 * b + 1, true) (by rw [hfoot]; exact List.mem_append_left _ (List.mem_append_left _ (List.mem_map.mpr ⟨b, hb, rfl⟩)))).2.1 b rfl
    have hr : ∀ b ∈ rfIds c.ins (args.toList.map (evO σ.env) ++ cap), σ.box b = τ.box b := fun b hb => (hB (3 * b + 1, false) (by rw [hfoot]; exact List.mem_append_left _ (List.mem_append_right _ (List.mem_map.mpr ⟨b, hb, rfl⟩)))).2.1 b rfl
    have hx' : unIns τ.box c.ins (args.toList.map (evO σ.env) ++ cap) = some x := by rw [← unIns_agree _ _ hp hr]; exact hx
    have hD' : resD c τ o.dst y.1 (wb τ.box c.ins (args.toList.map (evO σ.env) ++ cap) y.2) = some d := by
      rw [← wb_agree c.ins _ y.2 hp, ← hD]
      have hfree : ∀ dd, o.dst = some dd → Nat.beq c.fr 0 = false → freeN τ (rBase (σ.off + dd)) (nslL c.out) = freeN σ (rBase (σ.off + dd)) (nslL c.out) := by
        intro dd hdst hf0
        have key : ∀ j, j < nslL c.out → σ.box (rBase (σ.off + dd) + j) = τ.box (rBase (σ.off + dd) + j) ∧ σ.live (rBase (σ.off + dd) + j) = τ.live (rBase (σ.off + dd) + j) := by
          intro j hj
          have m : ∀ q ∈ [(3 * (rBase (σ.off + dd) + j) + 1, true), (3 * (rBase (σ.off + dd) + j) + 2, true)], q ∈ footB T o σ.off σ.env := fun q hq => by
            rw [hfoot]
            refine List.mem_append_right _ ?_
            unfold frFoot
            rw [hdst, hf0]
            exact List.mem_append_right _ (List.mem_flatMap.mpr ⟨σ.off + dd, by simp, List.mem_flatMap.mpr ⟨j, List.mem_range.mpr hj, hq⟩⟩)
          exact ⟨(hB (3 * (rBase (σ.off + dd) + j) + 1, true) (m (3 * (rBase (σ.off + dd) + j) + 1, true) (by simp))).2.1 _ rfl, (hB _ (m (3 * (rBase (σ.off + dd) + j) + 2, true) (by simp))).2.2 _ rfl⟩
        unfold freeN
        apply Bool.eq_iff_iff.mpr
        simp only [List.all_eq_true, List.mem_range]
        constructor
        · intro hq j hj
          have := hq j hj
          rw [← (key j hj).1, ← (key j hj).2] at this
          exact this
        · intro hq j hj
          have := hq j hj
          rw [(key j hj).1, (key j hj).2] at this
          exact this
      unfold resD
      cases hpt : c.ptr with
      | false =>
        simp only [cond_false]
        split
        · rfl
        · rename_i hf1
          cases hdst : o.dst with
          | none => rfl
          | some dd => simp only; rw [← hz, hfree dd hdst (by rw [hf1]; rfl)]
        · rename_i hf0 _
          cases hdst : o.dst with
          | none => rfl
          | some dd => simp only; rw [← hz, hfree dd hdst (by cases hq : Nat.beq c.fr 0 with | false => rfl | true => exact absurd (Nat.eq_of_beq_eq_true hq) hf0)]
      | true =>
        simp only [cond_true]
        cases hdst : o.dst with
        | none => rfl
        | some dd =>
          have := (hB (3 * (σ.off + dd) + 1, true) (by rw [hfoot]; refine List.mem_append_right _ ?_; unfold frFoot; rw [hpt, hdst]; exact List.mem_append_left _ (by simp))).2.1 (σ.off + dd) rfl
          simp only [← hz, this]
    rw [e2] at hTf hx' hn hd hfl hD'
    exact .call ho (by rw [← e1]; exact hf) hTf hx' hn hd hfl hF hD'
end

end Go.VE
