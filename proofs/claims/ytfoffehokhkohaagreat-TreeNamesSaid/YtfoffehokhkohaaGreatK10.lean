/- Part 10 of what is proved in the last text (packed by a program of mine). -/
import Derived.RangeFuncLeaves
import Derived.Test.YtfoffehokhkohaaGreatK09
set_option linter.all false
namespace Go.Proofs.YtfoffehokhkohaaGreat
open Go
inductive RS where
 | tmp (t : Nat)
 | cell (o : SO)
def resOf (P : Program) : List ResultVar → Option (List RS)
 | [] => some []
 | .tmp t :: l => match resOf P l with
  | some r => some (.tmp t :: r)
  | none => none
 | .cell p t :: l => match copLoad P t (.tmp p), resOf P l with
  | some o, some r => some (.cell o :: r)
  | _, _ => none
def sres' (Γ : Ctx) : List RS → List (Nat × SV) → List Ch → (List SV → List Ch → Prop) → Prop
 | [], _, hp, K => K [] hp
 | .tmp t :: l, tm, hp, K => match look tm t with
  | some v => match v.hs hp.length with
   | true => sres' Γ l tm hp fun vs hp => K (v :: vs) hp
   | false => False
  | none => False
 | .cell o :: l, tm, hp, K => sop Γ o tm hp fun v hp' => match v.hs hp'.length with
  | true => sres' Γ l tm hp' fun vs hp => K (v :: vs) hp
  | false => False
structure CallD (Γ : Ctx) (f : FuncId) (args : List SV) (hp : List Ch) (K : List Ch → Prop) : Prop where
 h : ∀ w, DenH Γ hp w → (callFunc f (SV.denL (bases hp) args).toArray).run Γ.P w = .ok (.enter f (SV.denL (bases hp) args).toArray) w ∧
  CallsDIn Fence.wide 0 Γ.P f (SV.denL (bases hp) args).toArray .returning w (fun e u w' => u = .returning ∧ CallPost Γ hp (fun _ hp' => K hp') e w')
def sdefs (Γ : Ctx) : List (Fn × List SV × List SV) → List Ch → (List Ch → Prop) → Prop
 | [], hp, K => K hp
 | (.yield d, [.bp h 0], _) :: l, hp, K => match nth hp h with
  | some (.res r) => VC (fun _ => r () = DefR d) (fun _ => sdefs Γ l (hp.set h (.gone none 1)) K)
  | _ => False
 | (.func f, caps, first) :: l, hp, K => CallD Γ f (appL first caps) hp (fun hp => sdefs Γ l hp K)
 | _, _, _ => False
def sfin (Γ : Ctx) (rs : List RS) (R : KV) (st : St) : Prop :=
 sdefs Γ st.df st.hp fun hp => sres' Γ rs st.tm hp fun vs hp => match vs with
  | [v] => R v hp
  | vs => R (.tup vs) hp
def readRes (tmps : Array Value) : ResultVar → Sem Value
 | .tmp t => pure (tmps.getD t undef)
 | .cell a t => do loadVar t (← asAddr (tmps.getD a undef))
def retV : List Value → Value
 | [v] => v
 | vs => .tuple vs.toArray
theorem results_gen {P : Program} {w : World} (rs : Array ResultVar) (tmps : Array Value) (vs : List Value) (h : (rs.toList.mapM (readRes tmps)).run P w = .ok vs w) :
  (do
   let vs ← rs.mapM (readRes tmps)
   pure (if h : vs.size = 1 then vs[0] else .tuple vs) : Sem Value).run P w = .ok (retV vs) w := by
 rw [Sem.run_bind, Array.mapM_eq_mapM_toList]
 simp only [Sem.run_map, h, Result.andThen_ok, Sem.run_pure]
 congr 1
 match vs with
 | [] => rfl
 | [v] => rfl
 | u :: v :: vs => simp [retV]
theorem results_run {P : Program} {w : World} (fn : Func) (tmps : Array Value) (vs : List Value) (h : (fn.results.toList.mapM (readRes tmps)).run P w = .ok vs w) :
  (results fn tmps).run P w = .ok (retV vs) w := by
 refine Eq.trans ?_ (results_gen fn.results tmps vs h)
 unfold results
 congr
theorem loadAt_addr {P : Program} {w : World} {t : Nat} {v x : Value} (h : (Instr.loadAt t v).run P w = .ok x w) : (do loadVar t (← asAddr v) : Sem Value).run P w = .ok x w := by
 cases v <;> simp_all [Instr.loadAt, Instr.sureAddr, asAddr]
 rename_i p
 cases p <;> simp_all
theorem sres_ok {Γ : Ctx} {a : Act} {w : World} : ∀ {rvs : List ResultVar} {rs : List RS} {tm : List (Nat × SV)} {hp : List Ch} {K : List SV → List Ch → Prop}, resOf Γ.P rvs = some rs → sres' Γ rs tm hp K → TmOk tm hp a → DenH Γ hp w →
  ∃ vs hp', (rvs.mapM (readRes a.tmps)).run Γ.P w = .ok (SV.denL (bases hp') vs) w ∧ SV.hsL hp'.length vs = true ∧ DenH Γ hp' w ∧ ExtB hp hp' ∧ K vs hp'
 | [], rs, tm, hp, K, hr, h, ht, hd => by
  simp only [resOf, Option.some.injEq] at hr
  subst hr
  exact ⟨[], hp, by simp [SV.denL], rfl, hd, ExtB.refl _, h⟩
 | .tmp t :: l, rs, tm, hp, K, hr, h, ht, hd => by
  simp only [resOf] at hr
  split at hr
  ·rename_i r hr'
   cases hr
   simp only [sres'] at h
   split at h
   ·rename_i v hv
    split at h
    ·rename_i hvs
     obtain ⟨vs, hp', h1, h2, h3, h4, h5⟩ := sres_ok hr' h ht hd
     obtain ⟨e1, e2⟩ := ht t v hv
     refine ⟨v :: vs, hp', ?_, ?_, h3, h4, h5⟩
     ·simp only [List.mapM_cons, readRes, Sem.run_bind, Sem.run_pure, Result.andThen_ok, h1, SV.denL]
      rw [h4.den hvs, Array.getD_eq_getD_getElem?, e1]
      rfl
     ·simp [SV.hsL, h2, hs_mono h4.le v hvs]
    ·exact h.elim
   ·exact h.elim
  ·cases hr
 | .cell p t :: l, rs, tm, hp, K, hr, h, ht, hd => by
  simp only [resOf] at hr
  split at hr
  ·rename_i o r ho hr'
   cases hr
   simp only [sres'] at h
   have hk : o.kd = .load := by
    unfold copLoad at ho
    repeat' split at ho
    all_goals first
     | (cases ho; rfl)
     | cases ho
   obtain ⟨x, hp1, h1, h2, h3, h4⟩ := sop_load (o := { dst := none, op := .load t (.tmp p), type := 0, pos := "", after := #[], guard := none }) (so := o) (by simpa [cop] using ho) hk h ht hd
   split at h4
   ·rename_i hxs
    have ht1 : TmOk tm hp1 a := fun t y hy => by
     obtain ⟨e1, e2⟩ := ht t y hy
     exact ⟨by rw [h3.den e2]; exact e1, hs_mono h3.le y e2⟩
    obtain ⟨vs, hp', g1, g2, g3, g4, g5⟩ := sres_ok hr' h4 ht1 h2
    refine ⟨x :: vs, hp', ?_, ?_, g3, h3.trans g4, g5⟩
    ·have hrun : (Instr.loadAt t (a.tmps.getD p undef)).run Γ.P w = .ok (x.den (bases hp1)) w := by
      have h1' := h1
      simp only [execOp, Sem.run_bind] at h1'
      have e : a.eval (.tmp p) = a.tmps.getD p undef := rfl
      rw [e] at h1'
      revert h1'
      cases (Instr.loadAt t (a.tmps.getD p undef)).run Γ.P w with
      | ok v w' => simp only [Result.andThen_ok, Sem.run_pure]; intro h; cases h; rfl
      | halt q w' => intro h; cases h
     have := loadAt_addr hrun
     simp only [List.mapM_cons, readRes]
     rw [Sem.run_bind, this]
     simp only [Result.andThen_ok, Sem.run_bind, g1, Sem.run_pure, SV.denL, g4.den hxs]
    ·simp [SV.hsL, g2, hs_mono g4.le x hxs]
   ·exact h4.elim
  ·cases hr
structure Fun (P : Program) (f : FuncId) (n : Nat) (sc : SC) (rs : List RS) : Prop where
 h : ∃ fn c, P.funcs[f]? = some fn ∧ fn.body = some c ∧ (fn.name == "runtime.NumGoroutine") = false ∧ comp P true c = some sc ∧ resOf P fn.results.toList = some rs ∧ fn.ntmps = n
theorem DenH.def {Γ : Ctx} {hp : List Ch} {w : World} {k d : Nat} (h : DenH Γ hp w) (hk : hp[k]? = some (.res fun _ => DefR d)) :
  w.heap[d]? = some (.deferred (some [])) ∧ DenH Γ (hp.set k (.gone none 1)) (w.putObj d (.deferred none)) := by
 obtain ⟨S, h1⟩ := h.at hk
 have h1 : w.heap[d]? = some (.deferred (some [])) ∧ ∀ x, S x ↔ x = d := h1
 refine ⟨h1.1, h.upd hk rfl rfl rfl rfl World.putObj_size fun S hS _ => ?_⟩
 have hS : w.heap[d]? = some (.deferred (some [])) ∧ ∀ x, S x ↔ x = d := hS
 exact ⟨fun x hx => World.putObj_heap_other (fun e => hx ((hS.2 x).2 e)), fun _ => False, fun _ h => h.elim, fun _ h => h⟩
theorem sdefs_ok {Γ : Ctx} {fn : Func} {tmps : Array Value} {R : Ending → World → Prop} : ∀ (df : List (Fn × List SV × List SV)) (hp : List Ch) (K : List Ch → Prop) (w : World), sdefs Γ df hp K → (∀ d ∈ df, SV.hsL hp.length d.2.1 = true ∧ SV.hsL hp.length d.2.2 = true) → DenH Γ hp w →
  (∀ hp' w', ExtB hp hp' → DenH Γ hp' w' → K hp' → ∃ v, (results fn tmps).run Γ.P w' = .ok v w' ∧ R (.returned v) w') → LeavesInM Fence.wide 0 Γ.P fn tmps R (df.map (denD (bases hp))) .returning w
 | [], hp, K, w, h, _, hd, hr => hr hp w (ExtB.refl _) hd h
 | (fv, l1, l2) :: l, hp, K, w, h, hdh, hd, hr => by
  cases fv with
  | yield d =>
   match l1, h with
   | [.bp hh 0], h =>
    simp only [sdefs] at h
    split at h
    ·rename_i r hk
     rw [nth_eq] at hk
     have hk : hp[hh]? = some (.res fun _ => DefR d) := by rw [hk]; congr 2; funext u; exact h.l
     obtain ⟨h1, h2⟩ := hd.def hk
     have hb : bases (hp.set hh (.gone none 1)) = bases hp := bases_set hk rfl
     refine ⟨by simp, .inl ⟨d, _, rfl, run_takeDeferred h1, ?_⟩⟩
     have := sdefs_ok (fn := fn) (tmps := tmps) (R := R) l (hp.set hh (.gone none 1)) K _ h.r (fun d hd => by rw [List.length_set]; exact hdh d (List.mem_cons_of_mem _ hd)) h2 (fun hp' w' he hd' hK => hr hp' w' (by obtain ⟨bs, he⟩ := he; exact ⟨bs, by rw [he, hb]⟩) hd' hK)
     rw [hb] at this
     exact this
    ·exact h.elim
  | func f =>
   simp only [sdefs] at h
   obtain ⟨h1, h2⟩ := h.h w hd
   have e1 : (SV.denL (bases hp) (appL l2 l1)).toArray = (SV.denL (bases hp) l2).toArray ++ (SV.denL (bases hp) l1).toArray := by simp [appL_eq, denL_map]
   rw [e1] at h1 h2
   refine ⟨by simp, .inr ⟨by simp [Fence.wide], _, _, f, _, rfl, h1, fun _ _ => trivial, h2.mono ?_⟩⟩
   rintro e u w' ⟨rfl, x, hp', rfl, _, hd', he, hK⟩
   have := sdefs_ok (fn := fn) (tmps := tmps) (R := R) l hp' K w' hK (fun d hd => ⟨hsL_mono he.le _ (hdh d (List.mem_cons_of_mem _ hd)).1, hsL_mono he.le _ (hdh d (List.mem_cons_of_mem _ hd)).2⟩) hd' (fun hp2 w2 he2 hd2 hK2 => hr hp2 w2 (he.trans he2) hd2 hK2)
   rw [← denD_ext he (fun d hd => hdh d (List.mem_cons_of_mem _ hd))] at this
   exact this
  | _ => simp [sdefs] at h
theorem body_of {P : Program} (hm : P.follows .mixedOrders = true) {f n : Nat} {sc : SC} {rs : List RS} (F : Fun P f n sc rs) {hp0 : List Ch} {args0 : List SV} {args : List Value} {Γ : Ctx} (hΓ : Γ.P = P) {w : World} {R0 : KV} {R : Ending → World → Prop}
  (hn : Nat.ble args0.length n = true) (hargs : SV.denL (bases hp0) args0 = args) (ha : SV.hsL hp0.length args0 = true) (hd : DenH Γ hp0 w) (hpost : ∀ v hp' w', DenH Γ hp' w' → v.hs hp'.length = true → R0 v hp' → R (.returned (v.den (bases hp'))) w')
  (h : sx Γ sc ⟨n, initT 0 args0, hp0, []⟩ (sfin Γ rs R0) (fun _ _ => False) (sfin Γ rs R0)) :
  ∃ fn c, P.funcs[f]? = some fn ∧ fn.body = some c ∧ (callFunc f args.toArray).run P w = .ok (.enter f args.toArray) w ∧ c.wpIn Fence.wide 0 P (bodyPostM Fence.wide 0 P fn R) { tmps := args.toArray ++ Array.replicate (fn.ntmps - args.toArray.size) undef, defers := [] } w := by
 subst hΓ
 subst hargs
 obtain ⟨fn, c, h1, h2, h3, h4, h5, h6⟩ := F.h
 subst h6
 have hn := Nat.le_of_ble_eq_true hn
 have hcall : (callFunc f (SV.denL (bases hp0) args0).toArray).run Γ.P w = .ok (.enter f (SV.denL (bases hp0) args0).toArray) w := by
  have h3' : ¬ fn.name = "runtime.NumGoroutine" := by simpa using h3
  simp [callFunc, h1, h2, h3']
 refine ⟨fn, c, h1, h2, hcall, ?_⟩
 have hden : Den Γ ⟨fn.ntmps, initT 0 args0, hp0, []⟩ { tmps := (SV.denL (bases hp0) args0).toArray ++ Array.replicate (fn.ntmps - (SV.denL (bases hp0) args0).toArray.size) undef, defers := [] } w := by
  refine ⟨⟨by simp; omega, rfl, by simp, fun t x hx => ?_⟩, hd⟩
  obtain ⟨_, h8⟩ := look_initT 0 args0 t x hx
  simp only [Nat.sub_zero] at h8
  have hlt := (List.getElem?_eq_some_iff.1 h8).1
  refine ⟨?_, ?_⟩
  ·rw [Array.getElem?_append_left (by simpa using hlt)]
   simp [denL_map, h8]
  ·rw [hsL_all, List.all_eq_true] at ha
   exact ha x (List.mem_of_getElem? h8)
 have hx := sx_ok hm c (F := Fence.wide) (n := 0) rfl wideF_wide (d := true) (.inl rfl) sc _ _ _ _ _ w h4 h hden
 have fin : ∀ a w', Aft Γ (sfin Γ rs R0) a w' → LeavesInM Fence.wide 0 Γ.P fn a.tmps R a.defers .returning w' := by
  rintro a w' ⟨st, h7, h8⟩
  rw [h8.t.df]
  refine sdefs_ok st.df st.hp _ w' h7 h8.t.dh h8.h ?_
  intro hp' w'' he hd' hK
  have ht : TmOk st.tm hp' a := fun t x hx => by
   obtain ⟨g1, g2⟩ := h8.t.tm t x hx
   exact ⟨by rw [he.den g2]; exact g1, hs_mono he.le x g2⟩
  obtain ⟨vs, hp2, g1, g2, g3, g4, g5⟩ := sres_ok h5 hK ht hd'
  refine ⟨_, results_run fn a.tmps _ g1, ?_⟩
  split at g5
  ·rename_i v
   have := hpost v hp2 w'' g3 (by simpa [SV.hsL] using g2) g5
   simpa [SV.denL, retV] using this
  ·rename_i hne
   have := hpost (.tup vs) hp2 w'' g3 g2 g5
   match vs, hne with
   | [], _ => simpa [SV.denL, SV.den, retV] using this
   | [v], hne => exact (hne v rfl).elim
   | u :: v :: vs, _ => simpa [SV.denL, SV.den, retV] using this
 refine wpIn_mono hx ?_
 rintro e a w' hq
 cases e with
 | normal => exact fin a w' hq
 | ret => exact fin a w' hq
 | exit id => obtain ⟨_, h, _⟩ := hq; exact h.elim
 | goto l => exact hq.elim
 | panic ch => exact hq.elim
 | outgrown => exact hq.elim
theorem spec_of {P : Program} (hm : P.follows .mixedOrders = true) {f n : Nat} {sc : SC} {rs : List RS} (F : Fun P f n sc rs) {hpl : List Ch} {args : List SV} {R : KV} (hs : hsCL hpl.length hpl = true) (ha : SV.hsL hpl.length args = true)
  (hn : Nat.ble args.length n = true) (h : ∀ Γ : Ctx, Γ.P = P → Γ.b0.length = hpl.length → sx Γ sc ⟨n, initT 0 args, hpl, []⟩ (sfin Γ rs R) (fun _ _ => False) (sfin Γ rs R)) : FnSpec P f hpl args R := by
 refine ⟨hs, ha, fun w D hd => ?_⟩
 obtain ⟨fn, c, h1, h2, h3, h4⟩ := body_of hm F (Γ := ⟨P, w, D, bases hpl⟩) rfl (R := CallPost ⟨P, w, D, bases hpl⟩ hpl R) hn rfl ha hd (fun v hp' w' hd' hv hR => ⟨v, hp', rfl, hv, hd', (let ⟨_, d⟩ := hd'; d.pre), hR⟩) (h _ rfl (by simp))
 unfold FCalls
 rw [h3]
 exact callsIn_wide.1 (callsIn_of_wp_marks h1 h2 trivial h4)
theorem spec_by {P : Program} (hm : P.follows .mixedOrders = true) {f n : Nat} {sc : SC} {rs : List RS} (F : Fun P f n sc rs) {hpl : List Ch} {args : List SV} {R : KV} (hs : hsCL hpl.length hpl = true) (ha : SV.hsL hpl.length args = true)
  (hn : Nat.ble args.length n = true) {α : Type} (hp0 : α → List Ch) (args0 : α → List SV) (hargs : ∀ q, SV.denL (bases (hp0 q)) (args0 q) = SV.denL (bases hpl) args) (haq : ∀ q, SV.hsL (hp0 q).length (args0 q) = true) (hpre : ∀ (Γ : Ctx) (w : World), DenH Γ hpl w → ∃ q, DenH Γ (hp0 q) w)
  (h : ∀ (q : α) (Γ : Ctx), Γ.P = P → Γ.b0.length = hpl.length → sx Γ sc ⟨n, initT 0 (args0 q), hp0 q, []⟩ (sfin Γ rs (Cl Γ R)) (fun _ _ => False) (sfin Γ rs (Cl Γ R))) : FnSpec P f hpl args R := by
 refine ⟨hs, ha, fun w D hd => ?_⟩
 obtain ⟨q, hdq⟩ := hpre _ w hd
 have hl : (args0 q).length = args.length := by have := congrArg List.length (hargs q); simpa using this
 have hpost : ∀ v hp' w', DenH ⟨P, w, D, bases hpl⟩ hp' w' → v.hs hp'.length = true → Cl ⟨P, w, D, bases hpl⟩ R v hp' → CallPost ⟨P, w, D, bases hpl⟩ hpl R (.returned (v.den (bases hp'))) w' := by
  rintro v hp' w' hd' hv ⟨⟨v', hp2, g2, g3, g4⟩⟩
  obtain ⟨g5, g6⟩ := g2 w' hd'
  exact ⟨v', hp2, by rw [g6], g3, g5, (let ⟨_, d⟩ := g5; d.pre), g4⟩
 obtain ⟨fn, c, h1, h2, h3, h4⟩ := body_of hm F rfl (by rw [hl]; exact hn) (hargs q) (haq q) hdq hpost (h q _ rfl (by simp))
 unfold FCalls
 rw [h3]
 exact callsIn_wide.1 (callsIn_of_wp_marks h1 h2 trivial h4)
structure FnSpecD (P : Program) (f : FuncId) (hpl : List Ch) (args : List SV) (R : KV) : Prop where
 hs : hsCL hpl.length hpl = true
 ha : SV.hsL hpl.length args = true
 run : ∀ w D, DenH ⟨P, w, D, bases hpl⟩ hpl w → (callFunc f (SV.denL (bases hpl) args).toArray).run P w = .ok (.enter f (SV.denL (bases hpl) args).toArray) w ∧
  CallsDIn Fence.wide 0 P f (SV.denL (bases hpl) args).toArray .returning w (fun e u w' => u = .returning ∧ CallPost ⟨P, w, D, bases hpl⟩ hpl R e w')
theorem callD_by {Γ : Ctx} {P : Program} (hΓ : Γ.P = P) {f : FuncId} {hpc hpl : List Ch} {args argsl : List SV} {K : List Ch → Prop} {R : KV} (spec : FnSpecD P f hpl argsl R) (σ : List Nat) (hnd : σ.Nodup) (hsel : selP hpc σ σ hpl) (hargs : args = SV.renL σ argsl)
  (hK : ∀ x hpl', R x hpl' → ownOk hpl hpl' = true ∧ K (after hpc hpl hpl' σ)) : CallD Γ f args hpc K := by
 subst hΓ
 refine ⟨fun w hd => ?_⟩
 obtain ⟨S, d⟩ := hd
 obtain ⟨hren, din⟩ := frame_in hsel hnd spec.hs d
 obtain ⟨h1, h2⟩ := spec.run w (LentAny hpl σ S) ⟨_, din⟩
 have he : SV.denL (bases hpc) args = SV.denL (bases hpl) argsl := by rw [hargs]; exact (denL_ren hren argsl spec.ha).1
 rw [he]
 refine ⟨h1, h2.mono ?_⟩
 rintro e u w' ⟨rfl, x, hpl', rfl, hx, hd', hext, hR⟩
 obtain ⟨hown, hk⟩ := hK x hpl' hR
 obtain ⟨r1, r2, r3⟩ := frame_out hsel hnd d hd' hext hown
 obtain ⟨e1, e2⟩ := den_ren r1 x hx
 exact ⟨rfl, x.ren (ren' hpc hpl' σ), _, by rw [e1], by simpa using e2, r3, r2, hk⟩
abbrev t (n : Nat) : Operand := .tmp n
abbrev ci (n : Int) : Operand := .const (.int .i64 n)
abbrev j (d : Nat) (o : SO) : SI := ⟨some d, o, none⟩
abbrev j0 (o : SO) : SI := ⟨none, o, none⟩
abbrev jg (d : Nat) (o : SO) (g : Nat) (w : Bool) : SI := ⟨some d, o, some (g, w)⟩
abbrev zi (k : IntKind) (n : Int) : SV := .int k fun _ => n
abbrev zs : SV := .str fun _ => []
theorem om {p : Prop} (h : p := by ((try simp only [toI, inI, List.length_nil] at *); omega)) : p := h
theorem rf {p : Prop} (h : p := by (repeat' first | with_reducible rfl | exact (show Ch.base _ = _ from rfl) | ((try simp only [toI, inI, List.length_nil] at *); omega) | exact trivial | refine ⟨?_, ?_⟩ | refine ⟨?_⟩ | intro _)) : p := h
theorem cP {Γ : Ctx} {P : Program} (hΓ : Γ.P = P) {f : FuncId} {hpc hpl : List Ch} {args argsl : List SV} {K R : KV} (spec : FnSpec P f hpl argsl R) (σ : List Nat) (hK : ∀ x hpl', R x hpl' → ownOk hpl hpl' = true ∧ K (x.ren (ren' hpc hpl' σ)) (after hpc hpl hpl' σ)) (hnd : σ.Nodup := by simp)
 (hsel : selP hpc σ σ hpl := by (repeat' first | exact trivial | refine ⟨⟨_, rfl, .inl rfl⟩, ?_⟩ | refine ⟨⟨_, rfl, .inr ⟨rfl, rfl⟩⟩, ?_⟩)) (hargs : args = SV.renL σ argsl := by rfl) : CallP Γ f args hpc K := callP_by hΓ spec σ hnd hsel hargs hK
abbrev Mv (n : Nat) : SO := .mov (t n)
abbrev Mi (n : Int) : SO := .mov (ci n)
abbrev L1 (n : Nat) : SO := .load1 (t n)
abbrev Fa (k n : Nat) : SO := .faddr k (t n)
abbrev Ex (n k : Nat) : SO := .extr (t n) k
abbrev Ln (n : Nat) : SO := .len false (t n)
abbrev Ia (k n m : Nat) : SO := .iaddr k (t n) (t m)
abbrev Bt (o : BinOp) (n m : Nat) : SO := .bin o .no (t n) (t m)
abbrev Bc (o : BinOp) (n : Nat) (m : Int) : SO := .bin o .no (t n) (ci m)
abbrev Ca (f n : Nat) : SO := .callF f [t n]
abbrev Cb (f n m : Nat) : SO := .callF f [t n, t m]
abbrev M (d n : Nat) : SI := j d (Mv n)
abbrev Ki (k : IntKind) (n : Int) : Operand := .const (.int k n)
abbrev Kf : Operand := .const (.bool false)
abbrev Kt : Operand := .const (.bool true)
abbrev Kn : Operand := .const (.slice none 0 0)
abbrev Kp : Operand := .const (.pointer none)
abbrev Sk : SC := .skip
abbrev Rt : SC := .ret
abbrev Rg (l : List SI) (c : SC) : SC := .seq (.reg l) c
theorem fF {P : Program} {f n : Nat} {sc : SC} {rs : List RS} {fn : Func} {c : Code} (h : P.funcs[f]? = some fn) (h1 : fn.body = some c := by rfl) (h2 : (fn.name == "runtime.NumGoroutine") = false := by kernel_rfl) (h3 : comp P true c = some sc := by kernel_rfl) (h4 : resOf P fn.results.toList = some rs := by kernel_rfl) (h5 : fn.ntmps = n := by rfl) : Fun P f n sc rs := ⟨⟨fn, c, h, h1, h2, h3, h4, h5⟩⟩
end Go.Proofs.YtfoffehokhkohaaGreat
