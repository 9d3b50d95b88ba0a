/- Part 6 of what is proved in the last text (packed by a program of mine). -/
import Derived.RangeFuncCalls
import Derived.Test.YtfoffehokhkohaaGreatK05
set_option linter.all false
namespace Go.Proofs.YtfoffehokhkohaaGreat
open Go
structure WideF (F : Fence) : Prop where
 h : ∃ r, F = { Fence.wide with round := r }
theorem WideF.fn {F : Fence} (h : WideF F) (f : FuncId) : F.fn f := by
 obtain ⟨r, rfl⟩ := h.h
 exact trivial
theorem WideF.depth {F : Fence} (h : WideF F) : F.depth.isSome = true → 1 ≤ (0 : Nat) := by
 obtain ⟨r, rfl⟩ := h.h
 intro h
 cases h
theorem WideF.calls {F : Fence} (h : WideF F) {n : Nat} {P : Program} {f : FuncId} {args : Array Value} {w : World} {R : Ending → World → Prop} (hc : Calls P f args w R) : CallsIn F n P f args w R := by
 obtain ⟨r, rfl⟩ := h.h
 exact (callsIn_wide (n := n)).2 hc
theorem WideF.round {F : Fence} (h : WideF F) {n : Nat} {P : Program} {l f : Nat} {tmps : Array Value} {assign body : Code} {w : World} {R : Ending → World → Prop} (hc : RoundIn Fence.wide 0 P l f tmps assign body w R) : RoundIn F n P l f tmps assign body w R := by
 obtain ⟨r, rfl⟩ := h.h
 exact ⟨trivial, fun c cs _ => hc.2 c cs (by intro d hd; cases hd)⟩
theorem wideF_wide : WideF Fence.wide := ⟨none, rfl⟩
theorem wideF_round (l : Nat) : WideF (Fence.wide.inRound l) := ⟨some l, rfl⟩
theorem sop_load {Γ : Ctx} {o : Oper} {so : SO} {tm : List (Nat × SV)} {hp : List Ch} {K : KV} {a : Act} {w : World} (hc : cop Γ.P o.op = some so) (hk : so.kd = .load) (h : sop Γ so tm hp K) (ht : TmOk tm hp a) (hd : DenH Γ hp w) :
  ∃ x hp', (execOp a.eval o).run Γ.P w = .ok (.value (x.den (bases hp'))) w ∧ DenH Γ hp' w ∧ ExtB hp hp' ∧ K x hp' := by
 obtain ⟨dst, op, type, pos, after, guard⟩ := o
 cases op <;> simp only [cop] at hc
 case alloc t =>
  unfold copAlloc at hc
  repeat' split at hc
  all_goals first
   | (cases hc; cases hk)
   | cases hc
 case load t x =>
  unfold copLoad at hc
  split at hc
  ·rename_i fs hu
   split at hc
   ·rename_i s b z hti
    cases hc
    simp only [sop] at h
    obtain ⟨v, h1, h2, _⟩ := evO_ok h ht
    obtain ⟨r, hp', h3, h4, h5, h6⟩ := sLoadN_ok h1 hd hu rfl (tinfo_ok hti)
    exact ⟨r, hp', by simp [execOp, h2, h3], h4, h5, h6⟩
   ·cases hc
  ·rename_i n e hu
   split at hc
   ·rename_i s b z hti
    cases hc
    simp only [sop] at h
    obtain ⟨v, h1, h2, _⟩ := evO_ok h ht
    obtain ⟨r, hp', h3, h4, h5, h6⟩ := sLoadA_ok h1 hd hu rfl (tinfo_ok hti)
    exact ⟨r, hp', by simp [execOp, h2, h3], h4, h5, h6⟩
   ·cases hc
  ·rename_i d hn1 hn2 hu
   cases hc
   simp only [sop] at h
   obtain ⟨v, h1, h2, _⟩ := evO_ok h ht
   have hna : notAgg d = true := by
    cases d <;> simp_all [notAgg]
   obtain ⟨r, hp', h3, h4, h5, h6⟩ := sLoad1_ok h1 hd hu hna
   exact ⟨r, hp', by simp [execOp, h2, h3], h4, h5, h6⟩
  ·cases hc
 case convert s d x =>
  unfold copConv at hc
  split at hc
  ·cases hc; cases hk
  ·repeat' split at hc
   all_goals first
    | (cases hc; cases hk)
    | cases hc
  ·rename_i e hs hdst
   split at hc
   ·rename_i he
    cases hc
    simp only [sop] at h
    obtain ⟨v, h1, h2, _⟩ := evO_ok h ht
    obtain ⟨r, hp', h3, h4, h5, h6⟩ := sB2s_ok h1 hd hs he hdst
    exact ⟨r, hp', by simp [execOp, h2, h3], h4, h5, h6⟩
   ·cases hc
  ·cases hc
 all_goals
  first
   | (cases hc; done)
   | (cases hc; cases hk; done)
   | (unfold copStore at hc; repeat' split at hc)
   | (unfold copMkslice at hc; repeat' split at hc)
   | (unfold copSlice at hc; repeat' split at hc)
   | (unfold copFaddr at hc; repeat' split at hc)
   | (unfold copField at hc; repeat' split at hc)
   | (unfold copIaddr at hc; repeat' split at hc)
   | (unfold copIndex at hc; repeat' split at hc)
   | (unfold copBuild at hc; repeat' split at hc)
   | (unfold copBslice at hc; repeat' split at hc)
   | (unfold copCall at hc; repeat' split at hc)
   | (repeat' split at hc)
 all_goals first
  | (cases hc; done)
  | (cases hc; cases hk)
def Next' (Γ : Ctx) (o : Oper) (a : Act) (hp : List Ch) (K : KV) (a' : Act) (w' : World) : Prop :=
 ∃ x hp', a' = a.put o.dst (x.den (bases hp')) ∧ DenH Γ hp' w' ∧ ExtB hp hp' ∧ K x hp'
theorem wpIn_val {F : Fence} (hF : WideF F) {n : Nat} {Γ : Ctx} {o : Oper} {a : Act} {w : World} {hp : List Ch} {K : KV} {Q : Exit → Act → World → Prop} {s : Sem Value} (hnd : ∀ c, o.op ≠ .defer c)
  (he : (execOp a.eval o).run Γ.P w = (do pure (.value (← s)) : Sem Next).run Γ.P w) (h : RunE Γ hp w s K) : o.wpIn F n Γ.P a w (Next' Γ o a hp K) Q := by
 refine ⟨fun f _ => hF.fn f, ?_⟩
 obtain ⟨x, hp', w', h1, h2, h3, h4⟩ := h
 rw [Oper.semAt_eq _ _ _ hnd, he]
 simp only [Sem.run_bind, h1, Result.andThen_ok, Sem.run_pure]
 exact ⟨x, hp', rfl, h2, h3, h4⟩
theorem wpIn_unit {F : Fence} (hF : WideF F) {n : Nat} {Γ : Ctx} {o : Oper} {a : Act} {w : World} {hp : List Ch} {K : KV} {Q : Exit → Act → World → Prop} {s : Sem Unit} (hnd : ∀ c, o.op ≠ .defer c)
  (he : (execOp a.eval o).run Γ.P w = (do s; pure .skip : Sem Next).run Γ.P w) (h : RunU Γ hp w s K) : o.wpIn F n Γ.P a w (Next' Γ o a hp K) Q := by
 refine ⟨fun f _ => hF.fn f, ?_⟩
 obtain ⟨hp', w', h1, h2, h3, h4⟩ := h
 rw [Oper.semAt_eq _ _ _ hnd, he]
 simp only [Sem.run_bind, h1, Result.andThen_ok, Sem.run_pure]
 exact ⟨unit, hp', rfl, h2, h3, h4⟩
theorem uponIn_calls {F : Fence} (hF : WideF F) {n : Nat} {Γ : Ctx} {o : Oper} {a : Act} {hp : List Ch} {K : KV} {Q : Exit → Act → World → Prop} {r : Result Next}
  (h : match r with
   | .ok (.enter f' as) w' => Calls Γ.P f' as w' (CallPost Γ hp K)
   | .ok (.value v) w' => CallPost Γ hp K (.returned v) w'
   | .ok (.round l f tmps assign body) w' => RoundIn Fence.wide 0 Γ.P l f tmps assign body w' (CallPost Γ hp K)
   | _ => False) : o.uponIn F n Γ.P a (Next' Γ o a hp K) Q r := by
 have hdep : F.depth.isSome = true → 1 ≤ n := fun h => by have := hF.depth h; omega
 have post : ∀ e w', CallPost Γ hp K e w' → (match (motive := Ending → World → Prop) e, w' with
   | .returned v, w'' => Next' Γ o a hp K (a.put o.dst v) w''
   | .panicked chain, w'' => Q (.panic chain) a w''
   | .outgrown, _ => LetsOut Q) := by
  rintro e w' ⟨x, hp', rfl, hx, h2, h3, h4⟩
  exact ⟨x, hp', rfl, h2, h3, h4⟩
 cases r with
 | ok x w' =>
  cases x <;> first | exact h.elim | skip
  ·obtain ⟨x, hp', he, hx, h2, h3, h4⟩ := h
   cases he
   exact ⟨x, hp', rfl, h2, h3, h4⟩
  ·exact ⟨hdep, (hF.calls h).mono post⟩
  ·exact ⟨hdep, (hF.round h).mono post⟩
 | halt x w' => exact h.elim
theorem appL_eq {α : Type} (l m : List α) : appL l m = l ++ m := by
 induction l with
 | nil => rfl
 | cons x l ih => simp [appL, ih]
theorem callP_ok {F : Fence} (hF : WideF F) {n : Nat} {Γ : Ctx} {o : Oper} {a : Act} {w : World} {hp : List Ch} {K : KV} {Q : Exit → Act → World → Prop} {f : FuncId} {vs : List SV} (hnd : ∀ c, o.op ≠ .defer c)
  (he : (execOp a.eval o).run Γ.P w = (callFunc f (SV.denL (bases hp) vs).toArray).run Γ.P w) (h : CallP Γ f vs hp K) (hd : DenH Γ hp w) : o.wpIn F n Γ.P a w (Next' Γ o a hp K) Q := by
 refine ⟨fun f _ => hF.fn f, ?_⟩
 have hw := h.h w hd
 unfold FCalls at hw
 rw [Oper.semAt_eq _ _ _ hnd, he]
 apply uponIn_calls hF
 split at hw <;> simp_all
theorem callV_ok {F : Fence} (hF : WideF F) {n : Nat} {Γ : Ctx} {o : Oper} {a : Act} {w : World} {hp : List Ch} {K : KV} {Q : Exit → Act → World → Prop} {x : SV} {vs : List SV} (hnd : ∀ c, o.op ≠ .defer c)
  (he : ∀ fn first caps, x.den (bases hp) = .func fn first caps → (execOp a.eval o).run Γ.P w = (invoke (.fn fn caps) (first ++ (SV.denL (bases hp) vs).toArray)).run Γ.P w) (h : CallV Γ x vs hp K) (hd : DenH Γ hp w) : o.wpIn F n Γ.P a w (Next' Γ o a hp K) Q := by
 refine ⟨fun f _ => hF.fn f, ?_⟩
 have hw := h.h w hd
 unfold VCalls at hw
 rw [Oper.semAt_eq _ _ _ hnd]
 apply uponIn_calls hF
 split at hw
 ·rename_i fn first caps hx
  rw [he fn first caps hx]
  split at hw <;> simp_all
 ·exact hw.elim
theorem exec_callee (ρ : Operand → Value) (o : Oper) (c : Call) (x : Operand) (ho : o.op = .call c) (hb : c.callee = .value x) (P : Program) (w : World) {fn : Fn} {first caps : Array Value} (hx : ρ x = .func fn first caps) :
  (execOp ρ o).run P w = (invoke (.fn fn caps) (first ++ c.args.map ρ)).run P w := by
 simp only [execOp, ho, resolve, hb, hx, Deferred.ofValue, Sem.run_bind, Sem.run_pure, Result.andThen_ok]
theorem evElems_ok {tm : List (Nat × SV)} {hp : List Ch} {a : Act} {k : Nat} : ∀ (l : List (Nat × Operand)) (i : Nat) {K : List (List SV) → Prop} (_ : evElems tm k i l K) (_ : TmOk tm hp a),
  ∃ els, K els ∧ l.map (·.1) = List.range' i l.length ∧ l.map (fun p => (a.eval p.2).cells) = els.map (fun l => (SV.denL (bases hp) l).toArray) ∧ ∀ e ∈ els, e.length = k ∧ e.all SV.one = true
 | [], i, K, h, _ => ⟨[], h, rfl, rfl, by simp⟩
 | (j, x) :: l, i, K, h, ht => by
  simp only [evElems] at h
  split at h
  ·rename_i hij
   have hij := Nat.eq_of_beq_eq_true hij
   obtain ⟨v, h1, h2, hv⟩ := evO_ok h ht
   split at h1
   ·rename_i vs hvs
    split at h1
    ·rename_i hl
     have hl := Nat.eq_of_beq_eq_true hl
     obtain ⟨els, h3, h4, h5, h6⟩ := evElems_ok l (i + 1) h1 ht
     obtain ⟨c1, c2, c3⟩ := cells_den hvs (bases hp) hp.length hv
     refine ⟨vs :: els, h3, ?_, ?_, ?_⟩
     ·simp [List.range'_succ, h4, hij]
     ·simp [h2, c1, h5]
     ·intro e he
      rcases List.mem_cons.1 he with rfl | he
      ·exact ⟨hl, c2⟩
      ·exact h6 e he
    ·exact h1.elim
   ·exact h1.elim
  ·exact h.elim
set_option maxHeartbeats 2000000 in
theorem sop_eff {F : Fence} (hF : WideF F) {n : Nat} {Γ : Ctx} {o : Oper} {so : SO} {tm : List (Nat × SV)} {hp : List Ch} {K : KV} {a : Act} {w : World} {Q : Exit → Act → World → Prop} (hc : cop Γ.P o.op = some so) (hk : so.kd = .eff)
  (h : sop Γ so tm hp K) (ht : TmOk tm hp a) (hd : DenH Γ hp w) : o.wpIn F n Γ.P a w (Next' Γ o a hp K) Q := by
 obtain ⟨dst, op, type, pos, after, guard⟩ := o
 cases op <;> simp only [cop] at hc
 case alloc t =>
  unfold copAlloc at hc
  split at hc
  ·rename_i s b z hti
   have gen : so = .alloc t (svOfs z) → Oper.wpIn F n Γ.P { dst, op := .alloc t, type, pos, after, guard } a w (Next' Γ { dst, op := .alloc t, type, pos, after, guard } a hp K) Q := by
    rintro rfl
    simp only [sop] at h
    split at h
    ·rename_i h1 h2
     exact wpIn_val hF (by simp) rfl (alloc_ok h hd (tinfo_ok hti) rfl h1)
    ·exact h.elim
   split at hc
   ·split at hc
    ·rename_i v z'
     split at hc
     ·rename_i h1 h2
      have h2 := Nat.eq_of_beq_eq_true h2
      cases hc
      simp only [sop] at h
      have hz1 : isZ (ctOf v) v = true := by
       rw [List.all_cons, Bool.and_eq_true] at h1
       exact h1.1
      exact wpIn_val hF (by simp) rfl (allocA_ok h hd (tinfo_ok hti) h1 h2.symm (isZ_one hz1))
     ·exact gen (by cases hc; rfl)
    ·exact gen (by cases hc; rfl)
   ·exact gen (by cases hc; rfl)
  ·cases hc
 case box t x =>
  cases hc
  simp only [sop] at h
  obtain ⟨v, h1, h2, hv⟩ := evO_ok h ht
  split at h1
  ·rename_i k l
   exact wpIn_val hF (by simp) (by simp only [execOp, h2]) (boxA_ok (ty := t) h1 hd)
  ·split at h1
   ·rename_i l hl
    exact wpIn_val hF (by simp) (by simp only [execOp, h2]) (box_ok (ty := t) hl hv h1 hd)
   ·exact h1.elim
 case load t x =>
  unfold copLoad at hc
  repeat' split at hc
  all_goals first
   | (cases hc; done)
   | (cases hc; cases hk)
 case store t x v =>
  unfold copStore at hc
  split at hc
  ·rename_i fs hu
   split at hc
   ·rename_i s b z hti
    cases hc
    simp only [sop] at h
    obtain ⟨u, h1, h2, _⟩ := evO_ok h ht
    obtain ⟨u', h3, h4, _⟩ := evO_ok h1 ht
    exact wpIn_unit hF (by simp) (by simp only [execOp, h2, h4]) (sStoreN_ok h3 hd (tinfo_ok hti))
   ·cases hc
  ·split at hc
   ·rename_i s b z hti
    cases hc
    simp only [sop] at h
    obtain ⟨u, h1, h2, _⟩ := evO_ok h ht
    obtain ⟨u', h3, h4, _⟩ := evO_ok h1 ht
    exact wpIn_unit hF (by simp) (by simp only [execOp, h2, h4]) (sStoreA_ok h3 hd (tinfo_ok hti))
   ·cases hc
  ·split at hc
   ·rename_i b z hti
    cases hc
    simp only [sop] at h
    obtain ⟨u, h1, h2, _⟩ := evO_ok h ht
    obtain ⟨u', h3, h4, _⟩ := evO_ok h1 ht
    exact wpIn_unit hF (by simp) (by simp only [execOp, h2, h4]) (sStore1_ok h3 hd (tinfo_ok hti))
   ·cases hc
  ·cases hc
 case convert s d x =>
  unfold copConv at hc
  split at hc
  ·cases hc; cases hk
  ·rename_i e hs hdst
   split at hc
   ·rename_i he
    cases hc
    simp only [sop] at h
    obtain ⟨v, h1, h2, _⟩ := evO_ok h ht
    exact wpIn_val hF (by simp) (by simp only [execOp, h2]) (sS2b_ok h1 hd hs hdst he)
   ·cases hc
  ·repeat' split at hc
   all_goals first
    | (cases hc; done)
    | (cases hc; cases hk)
  ·cases hc
 case makeSlice t l c =>
  unfold copMkslice at hc
  split at hc
  ·rename_i e hu
   split at hc
   ·rename_i s b z hti
    split at hc
    ·rename_i h1 h2
     have h1 := Nat.eq_of_beq_eq_true h1
     cases hc
     simp only [sop] at h
     obtain ⟨u, h3, h4, _⟩ := evO_ok h ht
     obtain ⟨u', h5, h6, _⟩ := evO_ok h3 ht
     have hl : (ctsOf z).length = s := by rw [ctsOf_length, h1]
     have hti' := tinfo_ok hti
     rw [← hl] at hti'
     refine wpIn_val hF (by simp) (by simp only [execOp, h4, h6]) (sMkslice_ok h5 hd hu hti' (ctsOf_z z).symm ?_)
     intro c hcm
     have : c.z ∈ (ctsOf z).map CT.z := List.mem_map_of_mem hcm
     rw [ctsOf_z] at this
     exact (List.all_eq_true.1 h2) _ this
    ·cases hc
   ·cases hc
  ·cases hc
 case buildSlice t len parts =>
  unfold copBslice at hc
  split at hc
  ·rename_i e hu
   split at hc
   ·rename_i s b z hti
    split at hc
    ·rename_i h1 h2 h3
     have h1 := Nat.eq_of_beq_eq_true h1
     have h2 := Nat.le_of_ble_eq_true h2
     have h3 := Nat.eq_of_beq_eq_true h3
     cases hc
     simp only [sop] at h
     obtain ⟨els, h4, h5, h6, h7⟩ := evElems_ok _ 0 h ht
     have hl : (ctsOf z).length = s := by rw [ctsOf_length, h1]
     have hti' := tinfo_ok hti
     rw [← hl] at hti'
     refine wpIn_val hF (by simp) (s := Instr.buildSlice t len (parts.map fun (i, x) => (i, a.eval x))) (by simp only [execOp]) ?_
     refine sBslice_ok h4 hd hu hti' (by rw [hl, h1]) (by rw [hl]; exact h2) (fun l hl => (h7 l hl).1) (fun l hl => (h7 l hl).2) _ (parts.toList.map fun p => a.eval p.2) ?_ (by rw [List.map_map]; exact h6)
     rw [← h3, ← h5, Array.toList_map, List.zip_map']
    ·cases hc
   ·cases hc
  ·cases hc
 case call c =>
  unfold copCall at hc
  split at hc
  ·rename_i f hb
   cases hc
   simp only [sop] at h
   obtain ⟨vs, h1, h2, _⟩ := evOs_ok _ h ht
   have e1 : c.args.map a.eval = (SV.denL (bases hp) vs).toArray := by apply Array.ext'; rw [Array.toList_map, h2]
   refine callP_ok hF (by simp) ?_ h1 hd
   rw [exec_callee a.eval { dst, op := .call c, type, pos, after, guard } c (.func f) rfl hb Γ.P w (fn := .func f) (first := #[]) (caps := #[]) rfl, e1]
   simp [invoke]
  ·rename_i x hne hb
   cases hc
   simp only [sop] at h
   obtain ⟨v, h1, h2, hv⟩ := evO_ok h ht
   obtain ⟨vs, h3, h4, hvs⟩ := evOs_ok _ h1 ht
   have e1 : c.args.map a.eval = (SV.denL (bases hp) vs).toArray := by apply Array.ext'; rw [Array.toList_map, h4]
   split at h3
   ·rename_i f first caps
    refine callP_ok hF (by simp) ?_ h3 hd
    rw [exec_callee a.eval { dst, op := .call c, type, pos, after, guard } c x rfl hb Γ.P w (fn := .func f) (first := (SV.denL (bases hp) first).toArray) (caps := (SV.denL (bases hp) caps).toArray) (by rw [h2]; simp [SV.den]), e1]
    simp [invoke, appL_eq, denL_map]
   ·refine callV_ok hF (by simp) (fun fn first caps hx => ?_) h3 hd
    rw [exec_callee a.eval { dst, op := .call c, type, pos, after, guard } c x rfl hb Γ.P w (by rw [h2]; exact hx), e1]
  ·cases hc
  ·rename_i b hb
   split at hc
   ·repeat' split at hc
    all_goals first
     | (cases hc; done)
     | (cases hc; cases hk)
   ·repeat' split at hc
    all_goals first
     | (cases hc; done)
     | (cases hc; cases hk)
   ·rename_i sT xT x y hts hxs
    have e1 := arr2 hts
    have e2 := arr2 hxs
    obtain ⟨cs, hcs⟩ := exec_builtin a.eval { dst, op := .call c, type, pos, after, guard } c .append rfl hb
    have main : ∀ e sz b z, Γ.P.underlying sT = some (.slice e) → notInt Γ.P xT → tinfo Γ.P e = some (sz, b + 1, z) → Nat.beq sz z.length = true → so = .app e (b + 1) (ctsOf z) x y →
      Oper.wpIn F n Γ.P { dst, op := .call c, type, pos, after, guard } a w (Next' Γ { dst, op := .call c, type, pos, after, guard } a hp K) Q := by
     rintro e sz b z hu hn hti h1 rfl
     have h1 := Nat.eq_of_beq_eq_true h1
     simp only [sop] at h
     obtain ⟨u, h3, h4, _⟩ := evO_ok h ht
     obtain ⟨u', h5, h6, _⟩ := evO_ok h3 ht
     have hl : (ctsOf z).length = sz := by rw [ctsOf_length, h1]
     have hti' := tinfo_ok hti
     rw [← hl] at hti'
     refine wpIn_val hF (by simp) ?_ (sApp_ok (ty := type) h5 hd hu hti' (by rw [hl, h1]) (by omega) hn)
     rw [hcs]
     simp only [builtin, e1, e2, List.map_toArray, List.map_cons, List.map_nil, h4, h6]
    split at hc
    ·rename_i e e' hu hu'
     split at hc
     ·rename_i sz b z hti
      split at hc
      ·rename_i h1
       exact main e sz b z hu (.inl ⟨e', hu'⟩) hti h1 (by cases hc; rfl)
      ·cases hc
     ·cases hc
    ·rename_i e hu hu'
     split at hc
     ·rename_i sz b z hti
      split at hc
      ·rename_i h1
       exact main e sz b z hu (.inr hu') hti h1 (by cases hc; rfl)
      ·cases hc
     ·cases hc
    ·rename_i e kx hu hu'
     split at hc
     ·rename_i sz b z hti
      split at hc
      ·rename_i h1 h2
       have h1 := Nat.eq_of_beq_eq_true h1
       cases hc
       simp only [sop] at h
       obtain ⟨u, h3, h4, _⟩ := evO_ok h ht
       obtain ⟨u', h5, h6, _⟩ := evO_ok h3 ht
       have hl : (ctsOf z).length = sz := by rw [ctsOf_length, h1]
       have hti' := tinfo_ok hti
       rw [← hl] at hti'
       refine wpIn_val hF (by simp) ?_ (sAppz_ok (ty := type) h5 hd hu hti' (ctsOf_z z).symm (by omega) ?_ hu')
       ·rw [hcs]
        simp only [builtin, e1, e2, List.map_toArray, List.map_cons, List.map_nil, h4, h6]
       ·intro c hcm
        have : c.z ∈ (ctsOf z).map CT.z := List.mem_map_of_mem hcm
        rw [ctsOf_z] at this
        exact (List.all_eq_true.1 h2) _ this
      ·cases hc
     ·cases hc
    ·cases hc
   ·rename_i sT xT x y hts hxs
    have e1 := arr2 hts
    have e2 := arr2 hxs
    obtain ⟨cs, hcs⟩ := exec_builtin a.eval { dst, op := .call c, type, pos, after, guard } c .copy rfl hb
    split at hc
    ·rename_i e hu
     split at hc
     ·rename_i sz b z hti
      cases hc
      simp only [sop] at h
      obtain ⟨u, h3, h4, _⟩ := evO_ok h ht
      obtain ⟨u', h5, h6, _⟩ := evO_ok h3 ht
      refine wpIn_val hF (by simp) ?_ (sCopy_ok (ty := type) (sT := xT) h5 hd hu (tinfo_ok hti))
      rw [hcs]
      simp only [builtin, e1, e2, List.map_toArray, List.map_cons, List.map_nil, h4, h6]
     ·cases hc
    ·cases hc
   ·rename_i sT x hts hxs
    have e1 := arr1 hts
    have e2 := arr1 hxs
    obtain ⟨cs, hcs⟩ := exec_builtin a.eval { dst, op := .call c, type, pos, after, guard } c .clear rfl hb
    split at hc
    ·rename_i e hu
     split at hc
     ·rename_i sz b z hti
      split at hc
      ·rename_i h1 h2
       have h1 := Nat.eq_of_beq_eq_true h1
       cases hc
       simp only [sop] at h
       obtain ⟨u, h3, h4, _⟩ := evO_ok h ht
       have hl : (ctsOf z).length = sz := by rw [ctsOf_length, h1]
       have hti' := tinfo_ok hti
       rw [← hl] at hti'
       refine wpIn_val hF (by simp) ?_ (sClear_ok (ty := type) h3 hd hu hti' (ctsOf_z z).symm ?_)
       ·rw [hcs]
        simp only [builtin, e1, e2, List.map_toArray, List.map_cons, List.map_nil, h4]
       ·intro c hcm
        have : c.z ∈ (ctsOf z).map CT.z := List.mem_map_of_mem hcm
        rw [ctsOf_z] at this
        exact (List.all_eq_true.1 h2) _ this
      ·cases hc
     ·cases hc
    ·cases hc
   ·cases hc; cases hk
   ·cases hc; cases hk
   ·cases hc; cases hk
   ·cases hc; exact h.elim
   ·cases hc
 case panic x => cases hc; exact h.elim
 all_goals
  first
   | (cases hc; done)
   | (cases hc; cases hk; done)
   | (unfold copSlice at hc; repeat' split at hc)
   | (unfold copFaddr at hc; repeat' split at hc)
   | (unfold copField at hc; repeat' split at hc)
   | (unfold copIaddr at hc; repeat' split at hc)
   | (unfold copIndex at hc; repeat' split at hc)
   | (unfold copBuild at hc; repeat' split at hc)
   | (repeat' split at hc)
 all_goals first
  | (cases hc; done)
  | (cases hc; cases hk)
end Go.Proofs.YtfoffehokhkohaaGreat
namespace Go.Proofs.YtfoffehokhkohaaGreat
open Go
structure Den (Γ : Ctx) (st : St) (a : Act) (w : World) : Prop where
 t : DenT st a
 h : DenH Γ st.hp w
theorem look_put (tm : List (Nat × SV)) (d : Nat) (x : SV) (t : Nat) : look (putT tm d x) t = if t = d then some x else look tm t := by
 induction tm with
 | nil =>
  simp only [putT, look]
  cases h : Nat.beq d t with
  | true => have := Nat.eq_of_beq_eq_true h; simp [this]
  | false => have := Nat.ne_of_beq_eq_false h; simp [Ne.symm this]
 | cons p tm ih =>
  obtain ⟨s, y⟩ := p
  simp only [putT]
  cases h : Nat.beq s d with
  | true =>
   have h1 := Nat.eq_of_beq_eq_true h
   subst h1
   simp only [look]
   cases h2 : Nat.beq s t with
   | true => have := Nat.eq_of_beq_eq_true h2; simp [this]
   | false => have := Nat.ne_of_beq_eq_false h2; simp [Ne.symm this]
  | false =>
   have h1 := Nat.ne_of_beq_eq_false h
   simp only [look]
   cases h2 : Nat.beq s t with
   | true =>
    have h3 := Nat.eq_of_beq_eq_true h2
    subst h3
    simp [h1]
   | false => simp only; exact ih
theorem look_drop (tm : List (Nat × SV)) (d t : Nat) : look (dropT tm d) t = if t = d then none else look tm t := by
 induction tm with
 | nil => simp [dropT, look]
 | cons p tm ih =>
  obtain ⟨s, y⟩ := p
  simp only [dropT]
  cases h : Nat.beq s d with
  | true =>
   have h1 := Nat.eq_of_beq_eq_true h
   subst h1
   simp only [ih, look]
   cases h2 : Nat.beq s t with
   | true => have := Nat.eq_of_beq_eq_true h2; simp [this]
   | false => have := Nat.ne_of_beq_eq_false h2; simp [Ne.symm this]
  | false =>
   have h1 := Nat.ne_of_beq_eq_false h
   simp only [look]
   cases h2 : Nat.beq s t with
   | true =>
    have h3 := Nat.eq_of_beq_eq_true h2
    subst h3
    simp [h1]
   | false => simp only; exact ih
theorem ExtB.denL {hp hp' : List Ch} (h : ExtB hp hp') {l : List SV} (hx : SV.hsL hp.length l = true) : SV.denL (bases hp') l = SV.denL (bases hp) l := by
 obtain ⟨bs, hb⟩ := h
 rw [hb]
 exact denL_ext _ _ l (by simpa using hx)
theorem denD_ext {hp hp' : List Ch} (he : ExtB hp hp') : ∀ {l : List (Fn × List SV × List SV)} (_ : ∀ d ∈ l, SV.hsL hp.length d.2.1 = true ∧ SV.hsL hp.length d.2.2 = true), l.map (denD (bases hp)) = l.map (denD (bases hp'))
 | [], _ => rfl
 | d :: l, h => by
  simp only [List.map_cons]
  rw [denD_ext he (fun x hx => h x (List.mem_cons_of_mem _ hx))]
  congr 1
  obtain ⟨h1, h2⟩ := h d List.mem_cons_self
  obtain ⟨f, d1, d2⟩ := d
  cases f <;> simp only [denD, he.denL h1, he.denL h2]
theorem den_put {Γ : Ctx} {st : St} {a : Act} {w w' : World} {hp' : List Ch} {d : Option Nat} {x : SV} (h : Den Γ st a w) (hd : DenH Γ hp' w') (he : ExtB st.hp hp') (hok : dOk st.n d = true) (hx : x.hs hp'.length = true) :
  Den Γ { st with tm := setD st.tm d x, hp := hp' } (a.put d (x.den (bases hp'))) w' := by
 refine ⟨⟨by rw [put_size]; exact h.t.size, by rw [put_dfs, h.t.df]; exact denD_ext he h.t.dh, fun d hd => ⟨hsL_mono he.le _ (h.t.dh d hd).1, hsL_mono he.le _ (h.t.dh d hd).2⟩, fun t y hy => ?_⟩, hd⟩
 cases d with
 | none =>
  obtain ⟨h1, h2⟩ := h.t.tm t y hy
  exact ⟨by rw [he.den h2]; exact h1, hs_mono he.le y h2⟩
 | some d =>
  simp only [setD, look_put] at hy
  have hlt : d < a.tmps.size := by rw [h.t.size]; exact blt_lt hok
  rw [put_get]
  by_cases e : t = d
  ·subst e
   rw [if_pos rfl] at hy
   cases hy
   exact ⟨by rw [if_pos ⟨rfl, hlt⟩], hx⟩
  ·rw [if_neg e] at hy
   obtain ⟨h1, h2⟩ := h.t.tm t y hy
   rw [if_neg (fun h => e (Option.some.inj h.1).symm), he.den h2]
   exact ⟨h1, hs_mono he.le y h2⟩
theorem den_undef {Γ : Ctx} {st : St} {a : Act} {w : World} (h : Den Γ st a w) (d : Option Nat) : Den Γ { st with tm := dropD st.tm d } (a.put d undef) w := by
 refine ⟨⟨by rw [put_size]; exact h.t.size, by rw [put_dfs]; exact h.t.df, h.t.dh, fun t y hy => ?_⟩, h.h⟩
 cases d with
 | none => exact h.t.tm t y hy
 | some d =>
  simp only [dropD, look_drop] at hy
  by_cases e : t = d
  ·rw [if_pos e] at hy; cases hy
  ·rw [if_neg e] at hy
   rw [put_get, if_neg (fun h => e (Option.some.inj h.1).symm)]
   exact h.t.tm t y hy
theorem den_undef' {Γ : Ctx} {st : St} {a : Act} {w : World} (h : Den Γ st a w) (d : Option Nat) : Den Γ { st with tm := undD st.n st.tm d } (a.put d undef) w := by
 cases d with
 | none => exact den_undef h none
 | some d =>
  simp only [undD]
  split
  ·rename_i hlt
   have hlt : d < st.n := Nat.le_of_ble_eq_true hlt
   have h0 := den_undef h (some d)
   refine ⟨⟨h0.t.size, h0.t.df, h0.t.dh, fun t y hy => ?_⟩, h0.h⟩
   rw [look_put] at hy
   by_cases e : t = d
   ·subst e
    rw [if_pos rfl] at hy
    cases hy
    refine ⟨?_, rfl⟩
    rw [put_get, if_pos ⟨rfl, by rw [h.t.size]; exact hlt⟩]
    rfl
   ·rw [if_neg e] at hy
    refine h0.t.tm t y ?_
    simp only [dropD, look_drop]
    rw [if_neg e]
    exact hy
  ·exact den_undef h (some d)
theorem den_same {Γ : Ctx} {st : St} {a : Act} {w : World} (h : Den Γ st a w) {t : Nat} {x y : SV} (hl : look st.tm t = some x) (hxy : y.den (bases st.hp) = x.den (bases st.hp)) (hy : y.hs st.hp.length = true) : Den Γ { st with tm := putT st.tm t y } a w := by
 refine ⟨⟨h.t.size, h.t.df, h.t.dh, fun s z hz => ?_⟩, h.h⟩
 rw [look_put] at hz
 by_cases e : s = t
 ·subst e
  rw [if_pos rfl] at hz
  cases hz
  exact ⟨by rw [(h.t.tm s x hl).1, hxy], hy⟩
 ·rw [if_neg e] at hz; exact h.t.tm s z hz
def guardOf (ops : List Oper) (g : Option (Nat × Bool)) : Option (Option (Nat × Bool)) :=
 match g with
 | none => some none
 | some (j, want) => match nth ops j with
  | some o => match o.dst with
   | some t => some (some (t, want))
   | none => none
  | none => none
def csi (P : Program) (ops : List Oper) (o : Oper) : Option SI :=
 match cop P o.op, guardOf ops o.guard with
 | some so, some g => some ⟨o.dst, so, g⟩
 | _, _ => none
theorem csi_ok {P : Program} {ops : List Oper} {o : Oper} {i : SI} (h : csi P ops o = some i) : cop P o.op = some i.o ∧ guardOf ops o.guard = some i.g ∧ i.d = o.dst := by
 unfold csi at h
 split at h
 ·rename_i so g h1 h2
  cases h
  exact ⟨h1, h2, rfl⟩
 ·cases h
theorem wanted_none {ops : Array Oper} {o : Oper} (h : guardOf ops.toList o.guard = some none) (a : Act) : Region.wanted o (yielded ops a.tmps) = true := by
 unfold guardOf at h
 unfold Region.wanted
 split at h
 ·rename_i hg; rw [hg]
 ·repeat' split at h
  all_goals cases h
theorem wanted_some {ops : Array Oper} {o : Oper} {t : Nat} {want : Bool} (h : guardOf ops.toList o.guard = some (some (t, want))) {a : Act} {b : Bool} (hb : a.tmps[t]? = some (.bool b)) : Region.wanted o (yielded ops a.tmps) = (b == want) := by
 unfold guardOf at h
 unfold Region.wanted
 split at h
 ·cases h
 ·rename_i j wt hg
  rw [hg]
  split at h
  ·rename_i oj hj
   split at h
   ·rename_i t' ht
    cases h
    rw [nth_eq] at hj
    have hj' : ops[j]? = some oj := by simpa using hj
    simp only [yielded, hj', Option.bind_some, ht, hb]
    cases b <;> cases want <;> rfl
   ·cases h
  ·cases h
theorem wanted_undef {ops : Array Oper} {o : Oper} {t : Nat} {want : Bool} (h : guardOf ops.toList o.guard = some (some (t, want))) {a : Act} (hb : a.tmps[t]? = some (.tuple #[])) : Region.wanted o (yielded ops a.tmps) = false := by
 unfold guardOf at h
 unfold Region.wanted
 split at h
 ·cases h
 ·rename_i j wt hg
  rw [hg]
  split at h
  ·rename_i oj hj
   split at h
   ·rename_i t' ht
    cases h
    rw [nth_eq] at hj
    have hj' : ops[j]? = some oj := by simpa using hj
    simp only [yielded, hj', Option.bind_some, ht, hb]
    rfl
   ·cases h
  ·cases h
section
variable {F : Fence} {n : Nat} {Γ : Ctx} {ops : Array Oper} {Q : Exit → Act → World → Prop}
def Aft (Γ : Ctx) (K : KS) (a' : Act) (w' : World) : Prop := ∃ st', K st' ∧ Den Γ st' a' w'
theorem sdo_eq {i : SI} {st : St} {K : KS} (hk : i.o.kd ≠ .defer) : sdo Γ i st K = sop Γ i.o st.tm st.hp fun v hp => match dOk st.n i.d, v.hs hp.length with
  | true, true => K { st with tm := setD st.tm i.d v, hp := hp }
  | _, _ => False := by
 unfold sdo
 cases ho : i.o <;> first | rfl | (rw [ho] at hk; exact absurd rfl hk)
theorem defer_kd {P : Program} {o : Oper} {so : SO} (hc : cop P o.op = some so) (hk : so.kd ≠ .defer) : ∀ c, o.op ≠ .defer c := by
 intro c hcon
 rw [hcon] at hc
 simp only [cop] at hc
 split at hc
 ·cases hc; exact hk rfl
 ·cases hc
theorem sdo_quiet {i : SI} {st : St} {K : KS} {o : Oper} {a : Act} {w : World} (hc : cop Γ.P o.op = some i.o) (hd' : i.d = o.dst) (hk : i.o.kd = .pure ∨ i.o.kd = .load) (h : sdo Γ i st K) (hd : Den Γ st a w) :
  ∃ v, (execOp a.eval o).run Γ.P w = .ok (.value v) w ∧ (i.o.kd = .pure → ∀ w, (execOp a.eval o).run Γ.P w = .ok (.value v) w) ∧ Aft Γ K (a.put o.dst v) w := by
 rw [sdo_eq (by rcases hk with h | h <;> simp [h])] at h
 have fin : ∀ x hp', DenH Γ hp' w → ExtB st.hp hp' → (match dOk st.n i.d, SV.hs hp'.length x with
  | true, true => K { st with tm := setD st.tm i.d x, hp := hp' }
  | _, _ => False) → Aft Γ K (a.put o.dst (x.den (bases hp'))) w := by
  intro x hp' h1 h2 h3
  split at h3
  ·rename_i h4 h5
   rw [hd'] at h3 h4
   exact ⟨_, h3, den_put hd h1 h2 h4 h5⟩
  ·exact h3.elim
 rcases hk with hk | hk
 ·obtain ⟨x, h1, h2⟩ := sop_pure hc hk h hd.t.tm hd.h
  exact ⟨_, h1 w, fun _ => h1, fin x st.hp hd.h (ExtB.refl _) h2⟩
 ·obtain ⟨x, hp', h1, h2, h3, h4⟩ := sop_load hc hk h hd.t.tm hd.h
  exact ⟨_, h1, (fun hcon => by rw [hk] at hcon; cases hcon), fin x hp' h2 h3 h4⟩
theorem sdo_ok (hF : WideF F) {i : SI} {st : St} {K : KS} {o : Oper} {a : Act} {w : World} (hr : F.round = none ∨ i.o.kd ≠ .defer) (hc : cop Γ.P o.op = some i.o) (hd' : i.d = o.dst) (h : sdo Γ i st K) (hd : Den Γ st a w) :
  o.wpIn F n Γ.P a w (Aft Γ K) Q := by
 by_cases hq : i.o.kd = .pure ∨ i.o.kd = .load
 ·obtain ⟨v, h1, _, h2⟩ := sdo_quiet hc hd' hq h hd
  refine ⟨fun f _ => hF.fn f, ?_⟩
  rw [Oper.semAt_eq _ _ _ (defer_kd hc (by rcases hq with h | h <;> simp [h])), h1]
  exact h2
 ·by_cases hdf : i.o.kd = .defer
  ·have hr := hr.resolve_right (fun h => h hdf)
   obtain ⟨dst, op, type, pos, after, guard⟩ := o
   unfold sdo at h
   split at h
   ·rename_i x hx
    rw [hx] at hc
    cases op <;> simp only [cop] at hc
    case defer c =>
     split at hc
     ·rename_i x' hcal hargs
      cases hc
      obtain ⟨v, h1, h2, hv⟩ := evO_ok h hd.t.tm
      split at h1
      ·rename_i f first caps
       split at h1
       ·rename_i hok
        refine ⟨fun f _ => hF.fn f, ?_⟩
        rw [hr, Oper.semAt_none]
        have e2 : c.args = #[] := by cases hca : c.args; simp_all
        simp only [execOp, resolve, hcal, h2, SV.den, Deferred.ofValue, e2, Sem.run_bind, Sem.run_pure, Result.andThen_ok]
        rw [Oper.uponIn_defer]
        refine ⟨_, h1, ⟨⟨?_, ?_, ?_, ?_⟩, hd.h⟩⟩
        ·rw [put_size]; exact hd.t.size
        ·rw [put_dfs]; simp [hd.t.df, denD]
        ·intro x hx
         rcases List.mem_cons.1 hx with rfl | hx
         ·simp only [SV.hs, Bool.and_eq_true] at hv
          exact ⟨hv.2, hv.1⟩
         ·exact hd.t.dh x hx
        ·intro t y hy
         have hd2 := den_undef hd i.d
         have h3 := hd2.t.tm t y hy
         rw [hd'] at h3
         refine ⟨?_, h3.2⟩
         rw [← h3.1, put_get, put_get]
       ·exact h1.elim
      ·exact h1.elim
     ·cases hc
    all_goals
     first
      | (cases hc; done)
      | (unfold copAlloc at hc; repeat' split at hc)
      | (unfold copLoad at hc; repeat' split at hc)
      | (unfold copStore at hc; repeat' split at hc)
      | (unfold copConv at hc; repeat' split at hc)
      | (unfold copMkslice at hc; repeat' split at hc)
      | (unfold copSlice at hc; repeat' split at hc)
      | (unfold copFaddr at hc; repeat' split at hc)
      | (unfold copField at hc; repeat' split at hc)
      | (unfold copIaddr at hc; repeat' split at hc)
      | (unfold copIndex at hc; repeat' split at hc)
      | (unfold copBuild at hc; repeat' split at hc)
      | (unfold copBslice at hc; repeat' split at hc)
      | (unfold copCall at hc; repeat' split at hc)
      | (repeat' split at hc)
    all_goals (cases hc)
   ·rename_i hne
    exfalso
    cases ho : i.o <;> first | (exact hne _ ho) | (rw [ho] at hdf; cases hdf)
  ·have hke : i.o.kd = .eff := by
    cases hkk : i.o.kd <;> simp_all
   rw [sdo_eq hdf] at h
   refine Oper.wpIn_mono ?_ (sop_eff (Q := Q) hF hc hke h hd.t.tm hd.h)
   rintro a' w' ⟨x, hp', rfl, h1, h2, h3⟩
   split at h3
   ·rename_i h4 h5
    rw [hd'] at h3 h4
    exact ⟨_, h3, den_put hd h1 h2 h4 h5⟩
   ·exact h3.elim
theorem sstep_cases {i : SI} {st : St} {K : KS} {o : Oper} {a : Act} {w : World} (hg : guardOf ops.toList o.guard = some i.g) (hd' : i.d = o.dst) (h : sstep Γ i st K) (hd : Den Γ st a w) :
  (Region.wanted o (yielded ops a.tmps) = true ∧ ∃ st0, Den Γ st0 a w ∧ sdo Γ i st0 K) ∨ (Region.wanted o (yielded ops a.tmps) = false ∧ Aft Γ K (a.put o.dst undef) w) := by
 unfold sstep at h
 split at h
 ·rename_i hn
  rw [hn] at hg
  exact .inl ⟨wanted_none hg a, st, hd, h⟩
 ·rename_i t want hs
  rw [hs] at hg
  split at h
  ·rename_i hl
   have hb : a.tmps[t]? = some (.bool true) := by simpa [SV.den] using (hd.t.tm t _ hl).1
   have hw := wanted_some hg hb
   cases want with
   | true => exact .inl ⟨by rw [hw]; rfl, st, hd, h⟩
   | false => exact .inr ⟨by rw [hw]; rfl, _, h, hd' ▸ den_undef' hd i.d⟩
  ·rename_i hl
   have hb : a.tmps[t]? = some (.bool false) := by simpa [SV.den] using (hd.t.tm t _ hl).1
   have hw := wanted_some hg hb
   cases want with
   | true => exact .inr ⟨by rw [hw]; rfl, _, h, hd' ▸ den_undef' hd i.d⟩
   | false => exact .inl ⟨by rw [hw]; rfl, st, hd, h⟩
  ·rename_i hl
   have hb : a.tmps[t]? = some (.tuple #[]) := by simpa [SV.den, SV.denL] using (hd.t.tm t _ hl).1
   exact .inr ⟨wanted_undef hg hb, _, h, hd' ▸ den_undef' hd i.d⟩
  ·rename_i b hl
   have hb : a.tmps[t]? = some (.bool (b ())) := by simpa [SV.den] using (hd.t.tm t _ hl).1
   cases hbb : b () with
   | true =>
    rw [hbb] at hb
    have hw := wanted_some hg hb
    have h := h.t hbb
    have hd2 : Den Γ { st with tm := putT st.tm t .tt } a w := den_same hd hl (by simp [SV.den, hbb]) rfl
    cases want with
    | true => exact .inl ⟨by rw [hw]; rfl, _, hd2, h⟩
    | false => exact .inr ⟨by rw [hw]; rfl, _, h, hd' ▸ den_undef' hd2 i.d⟩
   | false =>
    rw [hbb] at hb
    have hw := wanted_some hg hb
    have h := h.f hbb
    have hd2 : Den Γ { st with tm := putT st.tm t .ff } a w := den_same hd hl (by simp [SV.den, hbb]) rfl
    cases want with
    | true => exact .inr ⟨by rw [hw]; rfl, _, h, hd' ▸ den_undef' hd2 i.d⟩
    | false => exact .inl ⟨by rw [hw]; rfl, _, hd2, h⟩
  ·exact h.elim
theorem sstep_ok (hF : WideF F) {j : Nat} {i : SI} {st : St} {K : KS} {o : Oper} {a : Act} {w : World} (hr : F.round = none ∨ i.o.kd ≠ .defer) (ho : ops[j]? = some o) (hc : csi Γ.P ops.toList o = some i) (h : sstep Γ i st K) (hd : Den Γ st a w) :
  wpOpIn F n Γ.P ops Q j (Aft Γ K) a w := by
 obtain ⟨c1, c2, c3⟩ := csi_ok hc
 unfold wpOpIn
 simp only [ho]
 rcases sstep_cases c2 c3 h hd with ⟨h1, st0, h2, h3⟩ | ⟨h1, h2⟩
 ·rw [if_pos h1]
  exact sdo_ok hF hr c1 c3 h3 h2
 ·rw [if_neg (by simp [h1])]
  exact ⟨fun f _ => hF.fn f, h2⟩
theorem sstep_quiet {i : SI} {st : St} {K : KS} {o : Oper} {a : Act} {w : World} (hc : csi Γ.P ops.toList o = some i) (hk : i.o.kd = .pure ∨ i.o.kd = .load) (h : sstep Γ i st K) (hd : Den Γ st a w) :
  ∃ v, Y Γ.P ops o v a w ∧ (i.o.kd = .pure → ∀ w, Y Γ.P ops o v a w) ∧ Aft Γ K (a.put o.dst v) w := by
 obtain ⟨c1, c2, c3⟩ := csi_ok hc
 rcases sstep_cases c2 c3 h hd with ⟨h1, st0, h2, h3⟩ | ⟨h1, h2⟩
 ·obtain ⟨v, h4, h5, h6⟩ := sdo_quiet c1 c3 hk h3 h2
  exact ⟨v, .inl ⟨h1, h4⟩, fun hp w => .inl ⟨h1, h5 hp w⟩, h6⟩
 ·exact ⟨undef, .inr ⟨h1, rfl⟩, fun _ _ => .inr ⟨h1, rfl⟩, h2⟩
end
end Go.Proofs.YtfoffehokhkohaaGreat
namespace Go.Proofs.YtfoffehokhkohaaGreat
open Go
inductive PS where
 | done
 | pure (i : Nat) (o : SI) (r : PS)
 | load (i : Nat) (o : SI) (r : PS)
 | eff (i : Nat) (o : SI) (chk : List SI) (r b : PS)
 | stop
def sagain (Γ : Ctx) (i : SI) (st : St) (k : Prop) : Prop :=
 match i.d with
 | none => False
 | some d => match look st.tm d with
  | some v => sop Γ i.o st.tm st.hp fun v' hp' => VC (fun _ => v'.den (bases hp') = v.den (bases st.hp)) (fun _ => k)
  | none => False
def srech1 (Γ : Ctx) (i : SI) (st : St) (k : Prop) : Prop :=
 match i.g with
 | none => sagain Γ i st k
 | some (t, want) => match look st.tm t with
  | some .tt => match want with
   | true => sagain Γ i st k
   | false => k
  | some .ff => match want with
   | true => k
   | false => sagain Γ i st k
  | _ => False
def srechk (Γ : Ctx) : List SI → St → Prop → Prop
 | [], _, k => k
 | i :: l, st, k => srech1 Γ i st (srechk Γ l st k)
structure AND2 (p q : Th Prop) : Prop where
 l : p ()
 r : q ()
def splan (Γ : Ctx) : PS → St → KS → Prop
 | .done, st, K => K st
 | .pure _ o r, st, K => sstep Γ o st fun st => splan Γ r st K
 | .load _ o r, st, K => sstep Γ o st fun st => splan Γ r st K
 | .eff _ o chk r b, st, K => match b with
  | .stop => sstep Γ o st fun st => srechk Γ chk st (splan Γ r st K)
  | b => AND2 (fun _ => sstep Γ o st fun st => srechk Γ chk st (splan Γ r st K)) (fun _ => splan Γ b st K)
 | .stop, _, _ => True
def insN (l : List Nat) (i : Nat) : List Nat := match memN l i with | true => l | false => i :: l
def uniN (l : List Nat) : List Nat → List Nat
 | [] => l
 | i :: m => uniN (insN l i) m
def ancOf (tab : List (List Nat)) : List Edge → List Nat
 | [] => []
 | e :: es => match Region.binds .any e with
  | true => match nth tab e.on with
   | some l => uniN (insN (ancOf tab es) e.on) l
   | none => insN (ancOf tab es) e.on
  | false => ancOf tab es
def ancs : List Oper → List (List Nat) → List (List Nat)
 | [], tab => tab
 | o :: os, tab => ancs os (tab ++ [ancOf tab o.after.toList])
theorem memN_iff (l : List Nat) (i : Nat) : memN l i = true ↔ i ∈ l := by
 induction l with
 | nil => simp [memN]
 | cons x l ih =>
  simp only [memN]
  cases h : Nat.beq x i with
  | true => have := Nat.eq_of_beq_eq_true h; simp [this]
  | false => have := Nat.ne_of_beq_eq_false h; simp [ih, Ne.symm this]
theorem mem_insN {l : List Nat} {i j : Nat} (h : j ∈ insN l i) : j = i ∨ j ∈ l := by
 unfold insN at h
 split at h
 ·exact .inr h
 ·exact List.mem_cons.1 h
theorem mem_uniN {l m : List Nat} {j : Nat} (h : j ∈ uniN l m) : j ∈ l ∨ j ∈ m := by
 induction m generalizing l with
 | nil => exact .inl h
 | cons x m ih =>
  rcases ih h with h | h
  ·rcases mem_insN h with h | h
   ·exact .inr (by simp [h])
   ·exact .inl h
  ·exact .inr (by simp [h])
theorem mem_ancOf {tab : List (List Nat)} {es : List Edge} {j : Nat} (h : j ∈ ancOf tab es) : ∃ e ∈ es, Region.binds .any e = true ∧ (j = e.on ∨ ∃ l, tab[e.on]? = some l ∧ j ∈ l) := by
 induction es with
 | nil => cases h
 | cons e es ih =>
  have lift : (∃ e ∈ es, Region.binds .any e = true ∧ (j = e.on ∨ ∃ l, tab[e.on]? = some l ∧ j ∈ l)) → ∃ e' ∈ e :: es, Region.binds .any e' = true ∧ (j = e'.on ∨ ∃ l, tab[e'.on]? = some l ∧ j ∈ l) := fun ⟨e', h1, h2⟩ => ⟨e', List.mem_cons_of_mem _ h1, h2⟩
  simp only [ancOf] at h
  split at h
  ·rename_i hb
   split at h
   ·rename_i l hl
    rw [nth_eq] at hl
    rcases mem_uniN h with h | h
    ·rcases mem_insN h with h | h
     ·exact ⟨e, List.mem_cons_self, hb, .inl h⟩
     ·exact lift (ih h)
    ·exact ⟨e, List.mem_cons_self, hb, .inr ⟨l, hl, h⟩⟩
   ·rcases mem_insN h with h | h
    ·exact ⟨e, List.mem_cons_self, hb, .inl h⟩
    ·exact lift (ih h)
  ·exact lift (ih h)
theorem ancs_ok {ops : Array Oper} : ∀ (os : List Oper) (tab : List (List Nat)), ops.toList.drop tab.length = os → (∀ (j : Nat) (l : List Nat), tab[j]? = some l → ∀ i ∈ l, Reach ops i j) → ∀ (j : Nat) (l : List Nat), (ancs os tab)[j]? = some l → ∀ i ∈ l, Reach ops i j
 | [], tab, _, h => h
 | o :: os, tab, hd, h => by
  have ho : ops[tab.length]? = some o := by
   have := congrArg (·[0]?) hd
   simpa [List.getElem?_drop] using this
  refine ancs_ok os (tab ++ [ancOf tab o.after.toList]) ?_ ?_
  ·have := congrArg (List.drop 1) hd
   simpa [List.drop_drop] using this
  ·intro j l hj i hi
   by_cases hlt : j < tab.length
   ·rw [List.getElem?_append_left hlt] at hj
    exact h j l hj i hi
   ·rw [List.getElem?_append_right (by omega)] at hj
    have hj0 : j = tab.length := by
     have := (List.getElem?_eq_some_iff.1 hj).1
     simp at this; omega
    subst hj0
    simp at hj
    subst hj
    obtain ⟨e, he, hb, h1⟩ := mem_ancOf hi
    have hr : Reach ops e.on tab.length := .one ho (by simpa using he) hb rfl
    rcases h1 with rfl | ⟨l, hl, hil⟩
    ·exact hr
    ·exact .step (h _ _ hl _ hil) hr
def kdQ : KD → Bool
 | .pure => true
 | .load => true
 | _ => false
def quietOf (sis : List SI) (ld : List Nat) (i : Nat) : Bool := match nth sis i with
 | some s => match memN ld i with
  | true => false
  | false => kdQ s.o.kd
 | none => false
def firstQ (sis : List SI) (ld : List Nat) : List Nat → Option (Nat × SI)
 | [] => none
 | i :: l => match quietOf sis ld i with
  | true => match nth sis i with
   | some s => some (i, s)
   | none => none
  | false => firstQ sis ld l
def anyAnc (anc : List (List Nat)) (i : Nat) : List Nat → Bool
 | [] => false
 | e :: l => match nth anc e with
  | some a => match memN a i with
   | true => true
   | false => anyAnc anc i l
  | none => anyAnc anc i l
def chkOf (anc : List (List Nat)) (E : List Nat) : List (Nat × SI) → List SI
 | [] => []
 | (i, s) :: T => match anyAnc anc i E with
  | true => chkOf anc E T
  | false => s :: chkOf anc E T
def altsP (sis : List SI) (rec_ : Nat → Option PS) (chk : Nat → List SI) : List Nat → Option PS
 | [] => some .stop
 | j :: l => match nth sis j, rec_ j, altsP sis rec_ chk l with
  | some s, some r, some b => some (.eff j s (chk j) r b)
  | _, _, _ => none
def mkPlan (sis : List SI) (ld : List Nat) (anc : List (List Nat)) (ops : Array Oper) : Nat → Array Bool → List (Nat × SI) → List Nat → Option PS
 | 0, _, _, _ => none
 | f + 1, L, T, E => match Region.ready .any ops L with
  | [] => some .done
  | rs => match firstQ sis ld rs with
   | some (i, s) => match s.o.kd with
    | .pure => match mkPlan sis ld anc ops f (L.setIfInBounds i true) T E with
     | some r => some (.pure i s r)
     | none => none
    | _ => match mkPlan sis ld anc ops f (L.setIfInBounds i true) ((i, s) :: T) E with
     | some r => some (.load i s r)
     | none => none
   | none => altsP sis (fun j => mkPlan sis ld anc ops f (L.setIfInBounds j true) T (j :: E)) (fun j => chkOf anc (j :: E) T) rs
theorem quietOf_kd {sis : List SI} {ld : List Nat} {i : Nat} (h : quietOf sis ld i = true) : ∃ s, nth sis i = some s ∧ kdQ s.o.kd = true := by
 unfold quietOf at h
 split at h
 ·rename_i s hs
  split at h
  ·cases h
  ·exact ⟨s, hs, h⟩
 ·cases h
theorem firstQ_ok {sis : List SI} {ld : List Nat} {rs : List Nat} {i : Nat} {s : SI} (h : firstQ sis ld rs = some (i, s)) : i ∈ rs ∧ nth sis i = some s ∧ kdQ s.o.kd = true ∧ quietOf sis ld i = true := by
 induction rs with
 | nil => cases h
 | cons j l ih =>
  simp only [firstQ] at h
  split at h
  ·rename_i hq
   split at h
   ·rename_i s' hs
    cases h
    obtain ⟨s2, h2, h3⟩ := quietOf_kd hq
    rw [hs] at h2
    cases h2
    exact ⟨List.mem_cons_self, hs, h3, hq⟩
   ·cases h
  ·obtain ⟨h1, h2⟩ := ih h; exact ⟨List.mem_cons_of_mem _ h1, h2⟩
theorem firstQ_none {sis : List SI} {ld : List Nat} {rs : List Nat} (h : firstQ sis ld rs = none) : ∀ i ∈ rs, quietOf sis ld i = false := by
 induction rs with
 | nil => simp
 | cons j l ih =>
  simp only [firstQ] at h
  intro i hi
  split at h
  ·rename_i hq
   obtain ⟨s2, h2, h3⟩ := quietOf_kd hq
   rw [h2] at h
   cases h
  ·rename_i hq
   rcases List.mem_cons.1 hi with rfl | hi
   ·simpa using hq
   ·exact ih h i hi
theorem anyAnc_ok {anc : List (List Nat)} {i : Nat} {E : List Nat} (h : anyAnc anc i E = true) : ∃ e ∈ E, ∃ a, anc[e]? = some a ∧ i ∈ a := by
 induction E with
 | nil => cases h
 | cons e l ih =>
  simp only [anyAnc] at h
  split at h
  ·rename_i a ha
   rw [nth_eq] at ha
   split at h
   ·rename_i hm
    exact ⟨e, List.mem_cons_self, a, ha, (memN_iff _ _).1 hm⟩
   ·obtain ⟨e', h1, h2⟩ := ih h; exact ⟨e', List.mem_cons_of_mem _ h1, h2⟩
  ·obtain ⟨e', h1, h2⟩ := ih h; exact ⟨e', List.mem_cons_of_mem _ h1, h2⟩
theorem chkOf_ok {anc : List (List Nat)} {E : List Nat} {T : List (Nat × SI)} {i : Nat} {s : SI} (h : (i, s) ∈ T) : anyAnc anc i E = true ∨ s ∈ chkOf anc E T := by
 induction T with
 | nil => cases h
 | cons p T ih =>
  obtain ⟨i', s'⟩ := p
  simp only [chkOf]
  rcases List.mem_cons.1 h with h | h
  ·cases h
   split
   ·exact .inl ‹_›
   ·exact .inr List.mem_cons_self
  ·split
   ·exact ih h
   ·rcases ih h with h | h
    ·exact .inl h
    ·exact .inr (List.mem_cons_of_mem _ h)
theorem chkOf_sub {anc : List (List Nat)} {E : List Nat} {T : List (Nat × SI)} {s : SI} (h : s ∈ chkOf anc E T) : ∃ i, (i, s) ∈ T := by
 induction T with
 | nil => cases h
 | cons p T ih =>
  obtain ⟨i', s'⟩ := p
  simp only [chkOf] at h
  split at h
  ·obtain ⟨i, hi⟩ := ih h; exact ⟨i, List.mem_cons_of_mem _ hi⟩
  ·rcases List.mem_cons.1 h with h | h
   ·exact ⟨i', h ▸ List.mem_cons_self⟩
   ·obtain ⟨i, hi⟩ := ih h; exact ⟨i, List.mem_cons_of_mem _ hi⟩
theorem altsP_ok {sis : List SI} {rec_ : Nat → Option PS} {chk : Nat → List SI} {rs : List Nat} {p : PS} (h : altsP sis rec_ chk rs = some p) {Γ : Ctx} {st : St} {K : KS} (hs : splan Γ p st K) :
  ∀ j ∈ rs, ∃ s r, nth sis j = some s ∧ rec_ j = some r ∧ sstep Γ s st fun st => srechk Γ (chk j) st (splan Γ r st K) := by
 induction rs generalizing p with
 | nil => simp
 | cons i l ih =>
  simp only [altsP] at h
  split at h
  ·rename_i s r b h1 h2 h3
   cases h
   have both : (sstep Γ s st fun st => srechk Γ (chk i) st (splan Γ r st K)) ∧ splan Γ b st K := by
    unfold splan at hs
    split at hs
    ·exact ⟨hs, trivial⟩
    ·exact ⟨hs.l, hs.r⟩
   intro j hj
   rcases List.mem_cons.1 hj with rfl | hj
   ·exact ⟨s, r, h1, h2, both.1⟩
   ·exact ih h3 both.2 j hj
  ·cases h
section
variable {F : Fence} {n : Nat} {Γ : Ctx} {ops : Array Oper} {Q : Exit → Act → World → Prop}
theorem sagain_ok {i : SI} {st : St} {k : Prop} {o : Oper} {a : Act} {w : World} {v : Value} (hc : cop Γ.P o.op = some i.o) (hd' : i.d = o.dst) (hk : i.o.kd = .load) (h : sagain Γ i st k) (hd : Den Γ st a w)
  (hw : Region.wanted o (yielded ops a.tmps) = true) : k ∧ ((∀ d, o.dst = some d → d < a.tmps.size → a.tmps[d]? = some v) → Y Γ.P ops o v a w) := by
 unfold sagain at h
 split at h
 ·exact h.elim
 ·rename_i d hdd
  split at h
  ·rename_i u hu
   obtain ⟨x, hp', h1, h2, h3, h4⟩ := sop_load hc hk h hd.t.tm hd.h
   refine ⟨h4.r, fun hv => .inl ⟨hw, ?_⟩⟩
   have h5 := (hd.t.tm d u hu).1
   have h6 := hv d (by rw [← hd']; exact hdd) (Array.getElem?_eq_some_iff.1 h5).1
   rw [h5] at h6
   rw [h1, h4.l, Option.some.inj h6]
  ·exact h.elim
theorem srech1_ok {i : SI} {st : St} {k : Prop} {o : Oper} {a : Act} {w : World} {v : Value} (hc : csi Γ.P ops.toList o = some i) (hk : i.o.kd = .load) (h : srech1 Γ i st k) (hd : Den Γ st a w) :
  k ∧ ((∀ d, o.dst = some d → d < a.tmps.size → a.tmps[d]? = some v) → (Region.wanted o (yielded ops a.tmps) = false → v = undef) → Y Γ.P ops o v a w) := by
 obtain ⟨c1, c2, c3⟩ := csi_ok hc
 unfold srech1 at h
 split at h
 ·rename_i hn
  rw [hn] at c2
  obtain ⟨h1, h2⟩ := sagain_ok (v := v) c1 c3 hk h hd (wanted_none c2 a)
  exact ⟨h1, fun hv _ => h2 hv⟩
 ·rename_i t want hs
  rw [hs] at c2
  split at h
  ·rename_i hl
   have hb : a.tmps[t]? = some (.bool true) := by simpa [SV.den] using (hd.t.tm t _ hl).1
   have hw := wanted_some c2 hb
   cases want with
   | true =>
    obtain ⟨h1, h2⟩ := sagain_ok (v := v) c1 c3 hk h hd (by rw [hw]; rfl)
    exact ⟨h1, fun hv _ => h2 hv⟩
   | false => exact ⟨h, fun _ hu => .inr ⟨by rw [hw]; rfl, hu (by rw [hw]; rfl)⟩⟩
  ·rename_i hl
   have hb : a.tmps[t]? = some (.bool false) := by simpa [SV.den] using (hd.t.tm t _ hl).1
   have hw := wanted_some c2 hb
   cases want with
   | true => exact ⟨h, fun _ hu => .inr ⟨by rw [hw]; rfl, hu (by rw [hw]; rfl)⟩⟩
   | false =>
    obtain ⟨h1, h2⟩ := sagain_ok (v := v) c1 c3 hk h hd (by rw [hw]; rfl)
    exact ⟨h1, fun hv _ => h2 hv⟩
  ·exact h.elim
theorem srechk_ok : ∀ {l : List SI} {st : St} {k : Prop} {a : Act} {w : World}, srechk Γ l st k → Den Γ st a w → (∀ i ∈ l, i.o.kd = .load ∧ ∃ o, csi Γ.P ops.toList o = some i) → k ∧ ∀ i ∈ l, ∀ o v, csi Γ.P ops.toList o = some i →
  (∀ d, o.dst = some d → d < a.tmps.size → a.tmps[d]? = some v) → (Region.wanted o (yielded ops a.tmps) = false → v = undef) → Y Γ.P ops o v a w
 | [], st, k, a, w, h, _, _ => ⟨h, by simp⟩
 | i :: l, st, k, a, w, h, hd, hk => by
  obtain ⟨hki, o0, ho0⟩ := hk i List.mem_cons_self
  have hrest : srechk Γ l st k := by
   simp only [srechk] at h
   exact (srech1_ok (v := undef) ho0 hki h hd).1
  obtain ⟨h1, h2⟩ := srechk_ok hrest hd (fun j hj => hk j (List.mem_cons_of_mem _ hj))
  refine ⟨h1, fun j hj o v hc => ?_⟩
  rcases List.mem_cons.1 hj with rfl | hj
  ·exact (srech1_ok hc hki h hd).2
  ·exact h2 j hj o v hc
def csis (P : Program) (ops : List Oper) : List Oper → Option (List SI)
 | [] => some []
 | o :: l => match csi P ops o, csis P ops l with
  | some i, some r => some (i :: r)
  | _, _ => none
theorem csis_ok {P : Program} {ops : List Oper} : ∀ {l : List Oper} {sis : List SI}, csis P ops l = some sis → sis.length = l.length ∧ ∀ (j : Nat) (i : SI), sis[j]? = some i → ∃ o, l[j]? = some o ∧ csi P ops o = some i
 | [], sis, h => by simp only [csis, Option.some.injEq] at h; subst h; simp
 | o :: l, sis, h => by
  simp only [csis] at h
  split at h
  ·rename_i i r h1 h2
   cases h
   obtain ⟨h3, h4⟩ := csis_ok h2
   refine ⟨by simp [h3], fun j i' hj => ?_⟩
   cases j with
   | zero =>
    simp only [List.getElem?_cons_zero, Option.some.injEq] at hj
    subst hj
    exact ⟨o, rfl, h1⟩
   | succ j => simpa using h4 j i' (by simpa using hj)
  ·cases h
theorem ssteps_ok (hF : WideF F) (sis : List SI) (hsis : csis Γ.P ops.toList ops.toList = some sis) {K : KS} (hr : F.round = none ∨ ∀ i ∈ sis, i.o.kd ≠ .defer) : ∀ (l : List SI) (j : Nat), sis.drop j = l → ∀ {st : St} {a : Act} {w : World}, ssteps Γ l st K → Den Γ st a w →
  wpOpsIn F n Γ.P ops (fun e a w => e = .normal ∧ Aft Γ K a w) (List.range' j l.length) a w
 | [], j, _, st, a, w, h, hd => ⟨rfl, st, h, hd⟩
 | i :: l, j, hj, st, a, w, h, hd => by
  have hi : sis[j]? = some i := by
   have := congrArg (·[0]?) hj
   simpa [List.getElem?_drop] using this
  have hl : sis.drop (j + 1) = l := by
   have := congrArg (List.drop 1) hj
   simpa [List.drop_drop] using this
  obtain ⟨o, ho, hc⟩ := (csis_ok hsis).2 j i hi
  have ho' : ops[j]? = some o := by simpa using ho
  simp only [List.length_cons, List.range'_succ]
  rw [wpOpsIn_cons]
  refine wpOpIn_mono ?_ (sstep_ok (Q := fun e a w => e = .normal ∧ Aft Γ K a w) hF (hr.imp id fun h => h i (List.mem_of_getElem? hi)) ho' hc h hd)
  rintro a' w' ⟨st', h1, h2⟩
  exact ssteps_ok hF sis hsis hr l (j + 1) hl h1 h2
theorem splan_ok (hF : WideF F) (sis : List SI) (ld : List Nat) (hsis : csis Γ.P ops.toList ops.toList = some sis) {K : KS} (hr : F.round = none ∨ ∀ i ∈ sis, i.o.kd ≠ .defer) (anc : List (List Nat)) (hanc : ∀ (j : Nat) (l : List Nat), anc[j]? = some l → ∀ i ∈ l, Reach ops i j) :
  ∀ (f : Nat) (L : Array Bool) (T : List (Nat × SI)) (E : List Nat) (p : PS), mkPlan sis ld anc ops f L T E = some p → L.size = ops.size → (∀ x ∈ T, nth sis x.1 = some x.2 ∧ x.2.o.kd = .load) → (∀ e ∈ E, has L e ∧ quietOf sis ld e = false) →
  ∀ (Tv : List (Nat × Value)) (st : St) (a : Act) (w : World), (∀ x ∈ Tv, ∃ s, (x.1, s) ∈ T) → splan Γ p st K → Den Γ st a w → Pl F n Γ.P ops (fun e a w => e = .normal ∧ Aft Γ K a w) (quietOf sis ld) f L Tv a w := by
 intro f
 induction f with
 | zero => intro L T E p h; simp [mkPlan] at h
 | succ f ih =>
  intro L T E p h hL hT hE Tv st a w hTv hs hd
  have at_ : ∀ i s, nth sis i = some s → ∃ o, ops[i]? = some o ∧ csi Γ.P ops.toList o = some s := by
   intro i s his
   rw [nth_eq] at his
   obtain ⟨o, h1, h2⟩ := (csis_ok hsis).2 i s his
   exact ⟨o, by simpa using h1, h2⟩
  simp only [mkPlan] at h
  split at h
  ·rename_i hrd
   cases h
   exact .inl ⟨hrd, rfl, st, hs, hd⟩
  ·rename_i rs hne
   split at h
   ·rename_i i s hfq
    obtain ⟨q1, q2, q3, q4⟩ := firstQ_ok hfq
    obtain ⟨o, ho, hc⟩ := at_ i s q2
    have hq : quietOf sis ld i = true := q4
    have hE' : ∀ e ∈ E, has (L.setIfInBounds i true) e ∧ quietOf sis ld e = false := fun e he => ⟨has_set.2 (.inl (hE e he).1), (hE e he).2⟩
    split at h
    ·rename_i hk
     split at h
     ·rename_i r hr'
      cases h
      obtain ⟨v, y1, y2, st', k1, k2⟩ := sstep_quiet hc (.inl hk) hs hd
      exact .inr (.inl ⟨i, o, v, ho, q1, hq, y2 hk, ih _ T E r hr' (by simpa using hL) hT hE' Tv st' _ _ hTv k1 k2⟩)
     ·cases h
    ·rename_i hnk
     have hk : s.o.kd = .load := by
      cases hkk : s.o.kd <;> simp_all [kdQ]
     split at h
     ·rename_i r hr'
      cases h
      obtain ⟨v, y1, y2, st', k1, k2⟩ := sstep_quiet hc (.inr hk) hs hd
      refine .inr (.inr (.inl ⟨i, o, v, ho, q1, hq, y1, ih _ ((i, s) :: T) E r hr' (by simpa using hL) ?_ hE' _ st' _ _ ?_ k1 k2⟩))
      ·intro x hx
       rcases List.mem_cons.1 hx with rfl | hx
       ·exact ⟨q2, hk⟩
       ·exact hT x hx
      ·intro x hx
       rcases List.mem_cons.1 hx with rfl | hx
       ·exact ⟨s, List.mem_cons_self⟩
       ·obtain ⟨s', h'⟩ := hTv x hx; exact ⟨s', List.mem_cons_of_mem _ h'⟩
     ·cases h
   ·rename_i hfq
    refine .inr (.inr (.inr ⟨hne, fun j hj => ?_⟩))
    have hquiet := firstQ_none hfq j hj
    obtain ⟨s, r, a1, a2, a3⟩ := altsP_ok h hs j hj
    obtain ⟨o, ho, hc⟩ := at_ j s a1
    refine wpOpIn_mono ?_ (sstep_ok (Q := fun e a w => e = .normal ∧ Aft Γ K a w) hF (hr.imp id fun h => h s (by rw [nth_eq] at a1; exact List.mem_of_getElem? a1)) ho hc a3 hd)
    rintro a' w' ⟨st', k1, k2⟩
    have hjl : j < L.size := by rw [hL]; exact (Array.getElem?_eq_some_iff.1 ho).1
    have hcs : ∀ i ∈ chkOf anc (j :: E) T, i.o.kd = .load ∧ ∃ o, csi Γ.P ops.toList o = some i := by
     intro s' hs'
     have : ∃ i, (i, s') ∈ T := chkOf_sub hs'
     obtain ⟨i, hi⟩ := this
     obtain ⟨b1, b2⟩ := hT _ hi
     obtain ⟨o, _, ho⟩ := at_ i s' b1
     exact ⟨b2, o, ho⟩
    obtain ⟨m1, m2⟩ := srechk_ok (ops := ops) k1 k2 hcs
    refine ⟨fun i v oi hiT hoi hv hu hlive => ?_, ih _ T (j :: E) r a2 (by simpa using hL) hT ?_ Tv st' a' w' hTv m1 k2⟩
    ·obtain ⟨s', hs'⟩ := hTv _ hiT
     obtain ⟨b1, b2⟩ := hT _ hs'
     obtain ⟨o', ho', hc'⟩ := at_ i s' b1
     rw [hoi] at ho'
     cases ho'
     rcases chkOf_ok (anc := anc) (E := j :: E) hs' with h1 | h1
     ·exfalso
      obtain ⟨e, he, l, hl, hil⟩ := anyAnc_ok h1
      have hre := hanc e l hl i hil
      rcases List.mem_cons.1 he with rfl | he
      ·exact hlive e (has_set.2 (.inr ⟨rfl, hjl⟩)) hquiet hre
      ·exact hlive e (has_set.2 (.inl (hE e he).1)) (hE e he).2 hre
     ·exact m2 s' h1 oi v hc' hv hu
    ·intro e he
     rcases List.mem_cons.1 he with rfl | he
     ·exact ⟨has_set.2 (.inr ⟨rfl, hjl⟩), hquiet⟩
     ·exact ⟨has_set.2 (.inl (hE e he).1), (hE e he).2⟩
end
end Go.Proofs.YtfoffehokhkohaaGreat
