/- Part 9 of what is proved in the last text (packed by a program of mine). -/
import Derived.Scope
import Derived.RangeFuncCalls
import Derived.RangeFuncRecord
import Derived.Test.YtfoffehokhkohaaGreatK08
set_option linter.all false
namespace Go.Proofs.YtfoffehokhkohaaGreat
open Go
def RecR (l : Nat) (r : Loop) : RP where
 R w S := w.heap[l]? = some (.loop r) ∧ ∀ x, S x ↔ x = l
 loc := fun h hS => ⟨by rw [hS _ ((h.2 _).2 rfl)]; exact h.1, h.2⟩
 dom := fun h b hb => by
  have := (h.2 b).1 hb
  subst this
  exact (Array.getElem?_eq_some_iff.1 h.1).1
def DefR (d : Nat) : RP where
 R w S := w.heap[d]? = some (.deferred (some [])) ∧ ∀ x, S x ↔ x = d
 loc := fun h hS => ⟨by rw [hS _ ((h.2 _).2 rfl)]; exact h.1, h.2⟩
 dom := fun h b hb => by
  have := (h.2 b).1 hb
  subst this
  exact (Array.getElem?_eq_some_iff.1 h.1).1
theorem DenH.rec {Γ : Ctx} {hp : List Ch} {w : World} {k l : Nat} {r : Loop} (r' : Loop) (h : DenH Γ hp w) (hk : hp[k]? = some (.res fun _ => RecR l r)) :
  w.heap[l]? = some (.loop r) ∧ DenH Γ (hp.set k (.res fun _ => RecR l r')) (w.putObj l (.loop r')) := by
 obtain ⟨S, h1⟩ := h.at hk
 have h1 : w.heap[l]? = some (.loop r) ∧ ∀ x, S x ↔ x = l := h1
 have hlt := (Array.getElem?_eq_some_iff.1 h1.1).1
 refine ⟨h1.1, h.upd hk rfl rfl rfl rfl World.putObj_size fun S hS _ => ?_⟩
 have hS : w.heap[l]? = some (.loop r) ∧ ∀ x, S x ↔ x = l := hS
 exact ⟨fun x hx => World.putObj_heap_other (fun e => hx ((hS.2 x).2 e)), S, fun _ h => h, World.putObj_heap_same hlt, hS.2⟩
def goneL : List Ch → List Ch
 | [] => []
 | c :: l => .gone c.base.1 c.base.2 :: goneL l
theorem goneL_length (l : List Ch) : (goneL l).length = l.length := by
 induction l with
 | nil => rfl
 | cons c l ih => simp [goneL, ih]
theorem goneL_bases (l : List Ch) : bases (goneL l) = bases l := by
 induction l with
 | nil => rfl
 | cons c l ih => simp only [goneL, bases, List.map_cons] at ih ⊢; rw [ih]; rfl
theorem goneL_get : ∀ {l : List Ch} {i : Nat} {c : Ch}, (goneL l)[i]? = some c → ∃ a k, c = .gone a k
 | [], i, c, h => by simp [goneL] at h
 | d :: l, i, c, h => by
  cases i with
  | zero => simp only [goneL, List.getElem?_cons_zero, Option.some.injEq] at h; exact ⟨_, _, h.symm⟩
  | succ i => simp only [goneL, List.getElem?_cons_succ] at h; exact goneL_get h
theorem exclL_app : ∀ {l m : List Ch}, exclL (l ++ m) = (exclL l && exclL m)
 | [], m => by simp [exclL]
 | c :: l, m => by
  simp only [List.cons_append, exclL]
  split <;> simp [exclL_app]
theorem exclL_gone (l : List Ch) : exclL (goneL l) = true := by
 induction l with
 | nil => rfl
 | cons c l ih => simp [goneL, exclL, Ch.excl, ih]
theorem hsCL_all (n : Nat) (l : List Ch) : hsCL n l = l.all (Ch.hsC n) := by
 induction l with
 | nil => rfl
 | cons c l ih => simp only [hsCL, List.all_cons]; split <;> simp_all
theorem hsC_mono {n m : Nat} (h : n ≤ m) {c : Ch} (hc : c.hsC n = true) : c.hsC m = true := by
 cases c <;> simp_all [Ch.hsC]
 exact hsL_mono h _ hc
theorem hsCL_mono {n m : Nat} (h : n ≤ m) {l : List Ch} (hl : hsCL n l = true) : hsCL m l = true := by
 rw [hsCL_all, List.all_eq_true] at *
 exact fun c hc => hsC_mono h (hl c hc)
theorem hsCL_app (n : Nat) (l m : List Ch) : hsCL n (l ++ m) = (hsCL n l && hsCL n m) := by
 simp [hsCL_all]
theorem holds_bs {Γ : Ctx} {bs X Y : List Base} {w : World} {c : Ch} {S : Nat → Prop} (hc : c.hsC bs.length = true) (h : c.holds Γ (bs ++ X) w S) : c.holds Γ (bs ++ Y) w S := by
 cases c with
 | box b ty l ex =>
  obtain ⟨a1, a2, a3, a4⟩ := h
  exact ⟨by rw [denL_ext bs Y l hc]; rw [denL_ext bs X l hc] at a1; exact a1, hsL_mono (by simp) l hc, a3, a4⟩
 | arr a n sp cs ex => exact h
 | res r => exact h
 | gone a k => exact h
theorem holds_Γ {Γ Γ' : Ctx} {bs : List Base} {w : World} {c : Ch} {S : Nat → Prop} (hw : Γ'.w0 = Γ.w0) (hD : Γ'.D = Γ.D) (h : c.holds Γ bs w S) : c.holds Γ' bs w S := by
 cases c with
 | box b ty l ex => unfold Ch.holds at h ⊢; rw [hw, hD]; exact h
 | arr a n sp cs ex => unfold Ch.holds at h ⊢; rw [hw, hD]; exact h
 | res r => exact h
 | gone a k => exact h
theorem pack_in {P : Program} {w0 w : World} {D : Nat → Prop} {b : List Base} {A t : List Ch} {α : Type} {l : α → List Ch} (q : α) (hl : l q = goneL A ++ t) (hx : exclL t = true) (hA : hsCL A.length A = true)
  (h : DenH ⟨P, w0, D, b⟩ (A ++ t) w) : DenH ⟨P, w0, D, bases A ++ [(none, 1)]⟩ (A ++ [.res fun _ => Pack l]) w := by
 obtain ⟨S, d⟩ := h
 have hb : bases (A ++ [Ch.res fun _ => Pack l]) = bases A ++ [(none, 1)] := by simp [bases, Ch.base]
 refine ⟨fun i x => (i < A.length ∧ S i x) ∨ (i = A.length ∧ ∃ j, A.length ≤ j ∧ S j x), d.fr, ?_, ?_, ?_, ?_, ?_, ⟨[], by rw [hb, List.append_nil]⟩⟩
 ·intro i c hi
  by_cases hlt : i < A.length
  ·rw [List.getElem?_append_left hlt] at hi
   have h1 := d.ch i c (by rw [List.getElem?_append_left hlt]; exact hi)
   rw [bases_append] at h1
   have h2 := holds_bs (Y := [(none, 1)]) (by simpa using hsCL_at hA i c hi) h1
   have e : (fun x => (i < A.length ∧ S i x) ∨ (i = A.length ∧ ∃ j, A.length ≤ j ∧ S j x)) = S i := by
    funext x; apply propext
    constructor
    ·rintro (⟨_, h⟩ | ⟨h, _⟩)
     ·exact h
     ·omega
    ·exact fun h => .inl ⟨hlt, h⟩
   rw [e, hb]
   exact holds_Γ rfl rfl h2
  ·rw [List.getElem?_append_right (by omega)] at hi
   have hi0 : i = A.length := by
    have := (List.getElem?_eq_some_iff.1 hi).1
    simp at this; omega
   subst hi0
   simp only [Nat.sub_self, List.getElem?_cons_zero, Option.some.injEq] at hi
   subst hi
   show ∃ q Sf, Holds (l q) w _ Sf
   have hbl : bases (l q) = bases (A ++ t) := by rw [hl, bases_append, bases_append, goneL_bases]
   refine ⟨q, fun j x => A.length ≤ j ∧ S j x, ?_, ?_, ?_, ?_, ?_, ?_⟩
   ·rw [hl, exclL_app, exclL_gone, hx]; rfl
   ·intro j c hj
    rw [hbl]
    rw [hl] at hj
    by_cases hjl : j < A.length
    ·rw [List.getElem?_append_left (by rw [goneL_length]; exact hjl)] at hj
     obtain ⟨a, k, rfl⟩ := goneL_get hj
     rintro x ⟨h1, _⟩
     omega
    ·rw [List.getElem?_append_right (by rw [goneL_length]; omega), goneL_length] at hj
     have h1 := d.ch j c (by rw [List.getElem?_append_right (by omega)]; exact hj)
     have h2 := exclL_at hx _ c hj
     have e : (fun x => A.length ≤ j ∧ S j x) = S j := by funext x; simp; omega
     rw [e]
     exact holds_ctx h2 h1 (Nat.le_refl _) (fun _ _ => rfl)
   ·rintro i j x ⟨_, h1⟩ ⟨_, h2⟩
    exact d.dj i j x h1 h2
   ·rintro i x ⟨_, h1⟩
    exact d.dom i x h1
   ·rintro i x ⟨_, h1⟩
    have := d.out i x h1
    rw [hl]
    simp [goneL_length] at this ⊢
    exact this
   ·intro x
    constructor
    ·rintro (⟨h, _⟩ | ⟨_, j, h1, h2⟩)
     ·omega
     ·exact ⟨j, h1, h2⟩
    ·rintro ⟨j, h1, h2⟩
     exact .inr ⟨rfl, j, h1, h2⟩
 ·rintro i j x (⟨h1, h2⟩ | ⟨h1, k, h2, h3⟩) (⟨g1, g2⟩ | ⟨g1, k', g2, g3⟩)
  ·exact d.dj i j x h2 g2
  ·have := d.dj i k' x h2 g3; omega
  ·have := d.dj j k x g2 h3; omega
  ·omega
 ·rintro i x (⟨_, h⟩ | ⟨_, k, _, h⟩) hx
  ·exact d.own i x h hx
  ·exact d.own k x h hx
 ·rintro i x (⟨_, h⟩ | ⟨_, k, _, h⟩)
  ·exact d.dom i x h
  ·exact d.dom k x h
 ·rintro i x (⟨h, _⟩ | ⟨h, _⟩) <;> simp <;> omega
theorem unpack {P : Program} {w0 w : World} {D : Nat → Prop} {b b' : List Base} {A : List Ch} {α : Type} {l : α → List Ch} (hl : ∀ q, ∃ t, l q = goneL A ++ t ∧ ∃ bs, bases (A ++ t) = b' ++ bs) (hA : hsCL A.length A = true)
  (h : DenH ⟨P, w0, D, b⟩ (A ++ [.res fun _ => Pack l]) w) : ∃ q t, l q = goneL A ++ t ∧ DenH ⟨P, w0, D, b'⟩ (A ++ t) w := by
 obtain ⟨S, d⟩ := h
 obtain ⟨q, Sf, hh⟩ := d.ch A.length _ (by rw [List.getElem?_append_right (by omega), Nat.sub_self]; rfl)
 obtain ⟨t, ht, hbs⟩ := hl q
 refine ⟨q, t, ht, ?_⟩
 have hbl : bases (l q) = bases (A ++ t) := by rw [ht, bases_append, bases_append, goneL_bases]
 have hlow : ∀ i x, Sf i x → A.length ≤ i := by
  intro i x hx
  refine Nat.le_of_not_lt fun hlt => ?_
  have h1 := hh.out i x hx
  obtain ⟨c, hc⟩ : ∃ c, (l q)[i]? = some c := ⟨(l q)[i], by simp [h1]⟩
  have h2 := hh.ch i c hc
  rw [ht, List.getElem?_append_left (by rw [goneL_length]; exact hlt)] at hc
  obtain ⟨a, k, rfl⟩ := goneL_get hc
  exact h2 x hx
 have toS : ∀ i x, Sf i x → S A.length x := fun i x hi => (hh.all x).2 ⟨i, hi⟩
 refine ⟨fun i x => (i < A.length ∧ S i x) ∨ (A.length ≤ i ∧ Sf i x), d.fr, ?_, ?_, ?_, ?_, ?_, hbs⟩
 ·intro i c hi
  by_cases hlt : i < A.length
  ·rw [List.getElem?_append_left hlt] at hi
   have h1 := d.ch i c (by rw [List.getElem?_append_left hlt]; exact hi)
   rw [bases_append] at h1 ⊢
   have h2 := holds_bs (Y := bases t) (by simpa using hsCL_at hA i c hi) h1
   have e : (fun x => (i < A.length ∧ S i x) ∨ (A.length ≤ i ∧ Sf i x)) = S i := by
    funext x; apply propext
    constructor
    ·rintro (⟨_, h⟩ | ⟨h, _⟩)
     ·exact h
     ·omega
    ·exact fun h => .inl ⟨hlt, h⟩
   rw [e]
   exact holds_Γ rfl rfl h2
  ·have hi' := hi
   rw [List.getElem?_append_right (by omega)] at hi
   have hj : (l q)[i]? = some c := by rw [ht, List.getElem?_append_right (by rw [goneL_length]; omega), goneL_length]; exact hi
   have h1 := hh.ch i c hj
   have h2 := exclL_at hh.own i c hj
   rw [hbl] at h1
   have e : (fun x => (i < A.length ∧ S i x) ∨ (A.length ≤ i ∧ Sf i x)) = Sf i := by
    funext x; apply propext
    constructor
    ·rintro (⟨h, _⟩ | ⟨_, h⟩)
     ·omega
     ·exact h
    ·exact fun h => .inr ⟨by omega, h⟩
   rw [e]
   exact holds_ctx h2 h1 (Nat.le_refl _) (fun _ _ => rfl)
 ·rintro i j x (⟨h1, h2⟩ | ⟨h1, h2⟩) (⟨g1, g2⟩ | ⟨g1, g2⟩)
  ·exact d.dj i j x h2 g2
  ·have := d.dj i A.length x h2 (toS _ _ g2); omega
  ·have := d.dj j A.length x g2 (toS _ _ h2); omega
  ·exact hh.dj i j x h2 g2
 ·rintro i x (⟨_, h⟩ | ⟨_, h⟩) hx
  ·exact d.own i x h hx
  ·exact d.own A.length x (toS _ _ h) hx
 ·rintro i x (⟨_, h⟩ | ⟨_, h⟩)
  ·exact d.dom i x h
  ·exact hh.dom i x h
 ·rintro i x (⟨h, _⟩ | ⟨_, h⟩)
  ·simp; omega
  ·have := hh.out i x h
   rw [ht] at this
   simpa [goneL_length] using this
theorem goneL_of {A B : List Ch} (h : bases A = bases B) : goneL A = goneL B := by
 induction A generalizing B with
 | nil => cases B with
  | nil => rfl
  | cons c B => simp [bases] at h
 | cons a A ih => cases B with
  | nil => simp [bases] at h
  | cons c B =>
   simp only [bases, List.map_cons, List.cons.injEq] at h
   simp only [goneL, h.1]
   rw [ih h.2]
structure YSpec (P : Program) (l : Nat) (hpl : List Ch) (args : List SV) (R : KV) : Prop where
 hs : hsCL hpl.length hpl = true
 ha : SV.hsL hpl.length args = true
 run : ∀ w D, DenH ⟨P, w, D, bases hpl⟩ hpl w → VCalls P (.func (.yield l) #[] #[]) (SV.denL (bases hpl) args).toArray w (CallPost ⟨P, w, D, bases hpl⟩ hpl R)
theorem VCalls.mono {P : Program} {v : Value} {args : Array Value} {w : World} {R R' : Ending → World → Prop} (h : VCalls P v args w R) (hr : ∀ e w', R e w' → R' e w') : VCalls P v args w R' := by
 unfold VCalls at *
 split
 ·rename_i fn first caps
  simp only at h
  split
  ·rename_i h1; rw [h1] at h; exact Calls.mono h hr
  ·rename_i h1; rw [h1] at h; exact hr _ _ h
  ·rename_i h1
   rw [h1] at h
   exact ⟨h.1, fun c cs hro => let ⟨e, w', hR, hc⟩ := h.2 c cs hro; ⟨e, w', hr e w' hR, hc⟩⟩
  ·rename_i h1 h2 h3
   split at h
   ·rename_i h4; exact (h1 _ _ _ h4).elim
   ·rename_i h4; exact (h2 _ _ h4).elim
   ·rename_i h4; exact (h3 _ _ _ _ _ _ h4).elim
   ·exact h
 ·rename_i h1
  split at h
  ·exact (h1 _ _ _ rfl).elim
  ·exact h
theorem callV_by {Γ : Ctx} {P : Program} (hΓ : Γ.P = P) {l : Nat} {hpc hpl : List Ch} {args argsl : List SV} {K R : KV} (spec : YSpec P l hpl argsl R) (σ : List Nat) (hnd : σ.Nodup) (hsel : selP hpc σ σ hpl) (hargs : args = SV.renL σ argsl)
  (hK : ∀ x hpl', R x hpl' → ownOk hpl hpl' = true ∧ K (x.ren (ren' hpc hpl' σ)) (after hpc hpl hpl' σ)) : CallV Γ (.fn (.yield l) [] []) args hpc K := by
 subst hΓ
 refine ⟨fun w hd => ?_⟩
 obtain ⟨S, d⟩ := hd
 obtain ⟨hren, din⟩ := frame_in hsel hnd spec.hs d
 have hr := spec.run w (LentAny hpl σ S) ⟨_, din⟩
 have he : SV.denL (bases hpc) args = SV.denL (bases hpl) argsl := by rw [hargs]; exact (denL_ren hren argsl spec.ha).1
 rw [he]
 refine VCalls.mono (by simpa [SV.den, SV.denL] using hr) ?_
 rintro e w' ⟨x, hpl', rfl, hx, hd', hext, hR⟩
 obtain ⟨hown, hk⟩ := hK x hpl' hR
 obtain ⟨r1, r2, r3⟩ := frame_out hsel hnd d hd' hext hown
 obtain ⟨e1, e2⟩ := den_ren r1 x hx
 exact ⟨x.ren (ren' hpc hpl' σ), _, by rw [e1], by simpa using e2, r3, r2, hk⟩
structure ISpec (P : Program) (f : FuncId) (hpI : List Ch) (first caps : List SV) (ys : List (List SV)) : Prop where
 en : ∃ fn c, P.funcs[f]? = some fn ∧ fn.body = some c ∧ (fn.name == "runtime.NumGoroutine") = false
 hx : hsCL hpI.length hpI = true
 hy : ∀ xs ∈ ys, SV.hsL hpI.length xs = true
 hf : SV.hsL hpI.length first = true
 hc : SV.hsL hpI.length caps = true
 sp : ∀ (l : Nat) (Y : Nat → RP) (Z : RP), (∀ k xs, ys[k]? = some xs → YSpec P l (appL hpI [.res fun _ => Y k]) xs (fun v hp => (v = .tt ∧ hp = appL hpI [.res fun _ => Y (k + 1)]) ∨ (v = .ff ∧ hp = appL hpI [.res fun _ => Z]))) →
  FnSpec P f (appL hpI [.res fun _ => Y 0]) (appL first (.fn (.yield l) [] [] :: caps)) (fun _ hp => hp = appL hpI [.res fun _ => Y ys.length] ∨ hp = appL hpI [.res fun _ => Z])
structure ISpecF (P : Program) (f : FuncId) (hpI : Nat → List Ch) (first caps : List SV) (ys : List (List SV)) : Prop where
 en : ∃ fn c, P.funcs[f]? = some fn ∧ fn.body = some c ∧ (fn.name == "runtime.NumGoroutine") = false
 hx : ∀ k, hsCL (hpI k).length (hpI k) = true
 hb : ∀ k, bases (hpI k) = bases (hpI 0)
 hy : ∀ xs ∈ ys, SV.hsL (hpI 0).length xs = true
 hf : SV.hsL (hpI 0).length first = true
 hc : SV.hsL (hpI 0).length caps = true
 sp : ∀ (l : Nat) (Y : Nat → RP) (Z : RP), (∀ k xs, ys[k]? = some xs → YSpec P l (appL (hpI k) [.res fun _ => Y k]) xs (fun v hp => (v = .tt ∧ hp = appL (hpI k) [.res fun _ => Y (k + 1)]) ∨ (v = .ff ∧ hp = appL (hpI k) [.res fun _ => Z]))) →
  FnSpec P f (appL (hpI 0) [.res fun _ => Y 0]) (appL first (.fn (.yield l) [] [] :: caps)) (fun _ hp => hp = appL (hpI ys.length) [.res fun _ => Y ys.length] ∨ ∃ j, hp = appL (hpI j) [.res fun _ => Z])
theorem FnSpec.mono {P : Program} {f : FuncId} {hpl : List Ch} {args : List SV} {R R' : KV} (h : FnSpec P f hpl args R) (hR : ∀ v hp, R v hp → R' v hp) : FnSpec P f hpl args R' := by
 refine ⟨h.hs, h.ha, fun w D hd => (h.run w D hd).mono ?_⟩
 rintro e w' ⟨v, hp', h1, h2, h3, h4, h5⟩
 exact ⟨v, hp', h1, h2, h3, h4, hR _ _ h5⟩
theorem ISpec.to {P : Program} {f : FuncId} {hpI : List Ch} {first caps : List SV} {ys : List (List SV)} (h : ISpec P f hpI first caps ys) : ISpecF P f (fun _ => hpI) first caps ys :=
 ⟨h.en, fun _ => h.hx, fun _ => rfl, h.hy, h.hf, h.hc, fun l Y Z hY => (h.sp l Y Z hY).mono fun _ _ hR => hR.imp id fun h => ⟨0, h⟩⟩
theorem ISpecF.calls {P : Program} {f : FuncId} {hpI : Nat → List Ch} {first caps : List SV} {ys : List (List SV)} (h : ISpecF P f hpI first caps ys) {args : Array Value} {w : World} {R : Ending → World → Prop} (hc : FCalls P f args w R) :
  (callFunc f args).run P w = .ok (.enter f args) w ∧ Calls P f args w R := by
 obtain ⟨fn, c, h1, h2, h3⟩ := h.en
 have hcall : (callFunc f args).run P w = .ok (.enter f args) w := by
  have h3' : ¬ fn.name = "runtime.NumGoroutine" := by simpa using h3
  simp [callFunc, h1, h2, h3']
 refine ⟨hcall, ?_⟩
 unfold FCalls at hc
 rw [hcall] at hc
 exact hc
def QX (Γ : Ctx) (kn : KS) (ke : Nat → KS) (kr : KS) : Exit → Act → World → Prop
 | .normal, a, w => Aft Γ kn a w
 | .exit id, a, w => Aft Γ (ke id) a w
 | .ret, a, w => Aft Γ kr a w
 | _, _, _ => False
abbrev XT := Ctx → St → KS → (Nat → KS) → KS → Prop
structure RoundTo (Γ : Ctx) (hpI : List Ch) (r : RP) (C : List Ch → Prop) (hp : List Ch) : Prop where
 h : ∃ t, C t ∧ ∀ w, DenH Γ hp w → DenH Γ (appL hpI (.res (fun _ => r) :: t)) w
theorem RoundTo.by {Γ : Ctx} {hpI : List Ch} {r : RP} {C : List Ch → Prop} {hp : List Ch} (t : List Ch) (src : List Src) (k : Nat) (hk : Γ.b0.length = k) (hup : isUp 0 k (keys src) = true) (hkl : Nat.ble k (appL hpI (.res (fun _ => r) :: t)).length = true)
  (hn : (unders src (appL hpI (.res (fun _ => r) :: t))).Nodup) (hhc : hsCL (appL hpI (.res (fun _ => r) :: t)).length (appL hpI (.res (fun _ => r) :: t)) = true) (hs : srcP hp (keys src) src (appL hpI (.res (fun _ => r) :: t))) (hC : C t) : RoundTo Γ hpI r C hp :=
 ⟨⟨t, hC, fun _ hd => (view_by src k hk hup hkl hn hhc hs hd).2⟩⟩
def putPs : List Nat → List SV → List (Nat × SV) → List (Nat × SV)
 | t :: ps, x :: xs, tm => putPs ps xs (putT tm t x)
 | _, _, tm => tm
def midR (m : Nat) (r1 r2 : RP) (K : KS) (st : St) : Prop :=
 match nth st.hp m with
 | some (.res r) => TT (fun _ => r () = r1) ∧ K ⟨st.n, st.tm, st.hp.set m (.res fun _ => r2), st.df⟩
 | _ => False
def Packed (m : Nat) (hpB l : List Ch) : Prop := exclL l = true ∧ hsCL (m + 1 + l.length) l = true ∧ ∃ bs, bases l = bases hpB ++ bs
def jOf (j : Option Nat) (Kr : List Ch → Prop) (Ke : Nat → List Ch → Prop) (t : List Ch) : Prop :=
 match j with
 | none => Kr t
 | some id => Ke id t
structure RangeL0 (P : Program) (n : Nat) (ps : List Nat) (asg body : XT) (f : FuncId) (first caps : List SV) (tm : List (Nat × SV)) (hpI hpB : List Ch) (Kn Kr : List Ch → Prop) (Ke : Nat → List Ch → Prop) : Prop where
 h : ∃ (α β : Type) (J : Nat → α → Prop) (hpb : α → List Ch) (hpz : β → List Ch) (jz : β → Option Nat) (ys : List (List SV)) (q0 : α),
  ISpec P f hpI first caps ys ∧ (∀ xs ∈ ys, xs.length = ps.length) ∧ J 0 q0 ∧ hpb q0 = hpB ∧ (∀ q, Packed hpI.length hpB (hpb q)) ∧ (∀ q, Packed hpI.length hpB (hpz q)) ∧
  (∀ k q xs Γ r1 r2, ys[k]? = some xs → J k q → Γ.P = P → Γ.b0.length = hpI.length + 1 →
   asg Γ ⟨n, putPs ps xs tm, appL hpI (.res (fun _ => r1) :: hpb q), []⟩
    (midR hpI.length r1 r2 fun st => body Γ st (fun st => RoundTo Γ hpI r2 (fun t => ∃ q', J (k + 1) q' ∧ t = hpb q') st.hp)
     (fun id st => RoundTo Γ hpI r2 (fun t => ∃ q', jz q' = some id ∧ t = hpz q') st.hp) (fun st => RoundTo Γ hpI r2 (fun t => ∃ q', jz q' = none ∧ t = hpz q') st.hp))
    (fun _ _ => False) (fun _ => False)) ∧
  (∀ q, J ys.length q → Kn (hpb q)) ∧ (∀ q, jOf (jz q) Kr Ke (hpz q))
structure RangeL (P : Program) (n : Nat) (ps : List Nat) (asg body : XT) (f : FuncId) (first caps : List SV) (tm : List (Nat × SV)) (hpI : Nat → List Ch) (hpB : List Ch) (Kn Kr : List Ch → List Ch → Prop) (Ke : Nat → List Ch → List Ch → Prop) : Prop where
 h : ∃ (α β : Type) (J : Nat → α → Prop) (hpb : α → List Ch) (hpz : β → List Ch) (jz : β → Option Nat) (ys : List (List SV)) (q0 : α),
  ISpecF P f hpI first caps ys ∧ (∀ xs ∈ ys, xs.length = ps.length) ∧ J 0 q0 ∧ hpb q0 = hpB ∧ (∀ q, Packed (hpI 0).length hpB (hpb q)) ∧ (∀ q, Packed (hpI 0).length hpB (hpz q)) ∧
  (∀ k q xs Γ r1 r2, ys[k]? = some xs → J k q → Γ.P = P → Γ.b0.length = (hpI 0).length + 1 →
   asg Γ ⟨n, putPs ps xs tm, appL (hpI k) (.res (fun _ => r1) :: hpb q), []⟩
    (midR (hpI k).length r1 r2 fun st => body Γ st (fun st => RoundTo Γ (hpI k) r2 (fun t => ∃ q', J (k + 1) q' ∧ t = hpb q') st.hp)
     (fun id st => RoundTo Γ (hpI k) r2 (fun t => ∃ q', jz q' = some id ∧ t = hpz q') st.hp) (fun st => RoundTo Γ (hpI k) r2 (fun t => ∃ q', jz q' = none ∧ t = hpz q') st.hp))
    (fun _ _ => False) (fun _ => False)) ∧
  (∀ q, J ys.length q → Kn (hpI ys.length) (hpb q)) ∧ (∀ j q, jOf (jz q) (Kr (hpI j)) (fun id => Ke id (hpI j)) (hpz q))
theorem RangeL0.to {P : Program} {n : Nat} {ps : List Nat} {asg body : XT} {f : FuncId} {first caps : List SV} {tm : List (Nat × SV)} {hpI hpB : List Ch} {Kn Kr : List Ch → List Ch → Prop} {Ke : Nat → List Ch → List Ch → Prop} (h : RangeL0 P n ps asg body f first caps tm hpI hpB (Kn hpI) (Kr hpI) (fun id => Ke id hpI)) :
  RangeL P n ps asg body f first caps tm (fun _ => hpI) hpB Kn Kr Ke := by
 obtain ⟨α, β, J, hpb, hpz, jz, ys, q0, hI, h1, h2, h3, h4, h5, h6, h7, h8⟩ := h.h
 exact ⟨α, β, J, hpb, hpz, jz, ys, q0, hI.to, h1, h2, h3, h4, h5, h6, h7, fun _ => h8⟩
theorem putPs_ok : ∀ (ps : List Nat) (xs : List SV) (tm : List (Nat × SV)) (hp : List Ch) (tmps : Array Value), SV.hsL hp.length xs = true → (∀ t x, look tm t = some x → tmps[t]? = some (x.den (bases hp)) ∧ x.hs hp.length = true) → (∀ p ∈ ps, p < tmps.size) →
  ∀ t x, look (putPs ps xs tm) t = some x → ((ps.zip (SV.denL (bases hp) xs)).foldl (fun tmps (t, a) => tmps.setIfInBounds t a) tmps)[t]? = some (x.den (bases hp)) ∧ x.hs hp.length = true
 | [], xs, tm, hp, tmps, _, h, _ => by cases xs <;> exact h
 | p :: ps, [], tm, hp, tmps, _, h, _ => h
 | p :: ps, y :: xs, tm, hp, tmps, hx, h, hp' => by
  simp only [SV.hsL, Bool.and_eq_true] at hx
  simp only [putPs, SV.denL, List.zip_cons_cons, List.foldl_cons]
  refine putPs_ok ps xs (putT tm p y) hp (tmps.setIfInBounds p (y.den (bases hp))) hx.2 ?_ (fun q hq => by simpa using hp' q (List.mem_cons_of_mem _ hq))
  intro t x hl
  rw [look_put] at hl
  by_cases e : t = p
  ·subst e
   rw [if_pos rfl] at hl
   cases hl
   have := hp' t List.mem_cons_self
   exact ⟨by simp [this], hx.1⟩
  ·rw [if_neg e] at hl
   obtain ⟨h1, h2⟩ := h t x hl
   exact ⟨by rw [Array.getElem?_setIfInBounds_ne (Ne.symm e)]; exact h1, h2⟩
theorem size_fold (l : List (Nat × Value)) (tmps : Array Value) : (l.foldl (fun tmps (t, a) => tmps.setIfInBounds t a) tmps).size = tmps.size := by
 induction l generalizing tmps with
 | nil => rfl
 | cons p l ih => simp only [List.foldl_cons, ih]; simp
def jcode : Option Nat → Code
 | none => .ret
 | some id => .exit id
structure RecOk (r : Loop) (n : Nat) (ps : List Nat) (asgC bodyC : Code) (tm : List (Nat × SV)) (hpl : List Ch) : Prop where
 st : r.state = .ready
 pend : r.pending = none
 params : r.params = ps.toArray
 asg : r.assign = asgC
 body : r.body = bodyC
 size : r.tmps.size = n
 ps : ∀ p ∈ ps, p < n
 tm : ∀ t x, look tm t = some x → r.tmps[t]? = some (x.den (bases hpl)) ∧ x.hs hpl.length = true
theorem rangeL_ok {P : Program} {n : Nat} {ps : List Nat} {asgC bodyC : Code} {asg body : XT} {f : FuncId} {first caps : List SV} {tm : List (Nat × SV)} {hpI : Nat → List Ch} {hpB : List Ch} {Kn Kr : List Ch → List Ch → Prop} {Ke : Nat → List Ch → List Ch → Prop}
  (hasg : ∀ (Γ : Ctx) (l : Nat) (st : St) (kn : KS) (ke : Nat → KS) (kr : KS) (a : Act) (w : World), Γ.P = P → asg Γ st kn ke kr → Den Γ st a w → asgC.wpIn (Fence.wide.inRound l) 0 P (QX Γ kn ke kr) a w)
  (hbody : ∀ (Γ : Ctx) (l : Nat) (st : St) (kn : KS) (ke : Nat → KS) (kr : KS) (a : Act) (w : World), Γ.P = P → body Γ st kn ke kr → Den Γ st a w → bodyC.wpIn (Fence.wide.inRound l) 0 P (QX Γ kn ke kr) a w)
  (h : RangeL P n ps asg body f first caps tm hpI hpB Kn Kr Ke) {w : World} {D : Nat → Prop} {l : Nat} {r0 : Loop} (hr0 : RecOk r0 n ps asgC bodyC tm (hpI 0 ++ .res (fun _ => RecR l r0) :: hpB))
  (hd : DenH ⟨P, w, D, bases (hpI 0 ++ .res (fun _ => RecR l r0) :: hpB)⟩ (hpI 0 ++ .res (fun _ => RecR l r0) :: hpB) w) :
  ∃ args : Array Value, args = (SV.denL (bases (hpI 0 ++ .res (fun _ => RecR l r0) :: hpB)) first).toArray ++ #[.func (.yield l) #[] #[]] ++ (SV.denL (bases (hpI 0 ++ .res (fun _ => RecR l r0) :: hpB)) caps).toArray ∧
   (callFunc f args).run P w = .ok (.enter f args) w ∧
   Calls P f args w (fun e w' => ∃ v r1 hE t, e = .returned v ∧ r1.state ≠ .busy ∧ w'.heap[l]? = some (.loop r1) ∧ hE.length = (hpI 0).length ∧ DenH ⟨P, w, D, bases (hpI 0 ++ .res (fun _ => RecR l r0) :: hpB)⟩ (hE ++ .res (fun _ => RecR l r1) :: t) w' ∧ exclL t = true ∧
    ((r1.pending = none ∧ Kn hE t) ∨ ∃ j, r1.pending = some (jcode j) ∧ jOf j (Kr hE) (fun id => Ke id hE) t)) := by
 obtain ⟨α, β, J, hpb, hpz, jz, ys, q0, hI, hlen, hJ0, rfl, hpb1, hpz1, hround, hend, hstop⟩ := h.h
 have hL : ∀ k, (hpI k).length = (hpI 0).length := fun k => by have := congrArg List.length (hI.hb k); simpa using this
 have hG : ∀ k, goneL (hpI k) = goneL (hpI 0) := fun k => goneL_of (hI.hb k)
 let rz : Option Nat → Loop := fun j => { r0 with state := .done, pending := some (jcode j) }
 let lY : (k : Nat) → {q : α // J k q} → List Ch := fun k q => goneL (hpI 0) ++ .res (fun _ => RecR l r0) :: hpb q.1
 let lZ : β → List Ch := fun q => goneL (hpI 0) ++ .res (fun _ => RecR l (rz (jz q))) :: hpz q
 let Y : Nat → RP := fun k => Pack (lY k)
 let Z : RP := Pack lZ
 have happ : ∀ (k : Nat) (r : RP), appL (hpI k) [.res fun _ => r] = hpI k ++ [.res fun _ => r] := fun k r => appL_eq _ _
 have hbI : ∀ (k : Nat) (r : RP), bases (hpI k ++ [Ch.res fun _ => r]) = bases (hpI 0) ++ [(none, 1)] := fun k r => by rw [bases_append, hI.hb k]; rfl
 have hbR : ∀ (k : Nat) (r : RP) (t : List Ch), bases (hpI k ++ Ch.res (fun _ => r) :: t) = (bases (hpI 0) ++ [(none, 1)]) ++ bases t := fun k r t => by rw [bases_append, hI.hb k]; simp [bases, Ch.base]
 have hsI : ∀ (k : Nat) (r : RP), hsCL (hpI k ++ [Ch.res fun _ => r]).length (hpI k ++ [Ch.res fun _ => r]) = true := fun k r => by
  rw [hsCL_app, hsCL_mono (by simp) (hI.hx k)]; rfl
 have exY : ∀ (r : RP) (t : List Ch), exclL t = true → exclL (Ch.res (fun _ => r) :: t) = true := fun r t h => by simp [exclL, Ch.excl, h]
 have denI : ∀ (x : List SV) (X : List Base), SV.hsL (hpI 0).length x = true → SV.denL (bases (hpI 0) ++ X) x = SV.denL (bases (hpI 0)) x := fun x X hx => denL_ext _ _ x (by simpa using hx)
 have hY : ∀ k xs, ys[k]? = some xs → YSpec P l (appL (hpI k) [.res fun _ => Y k]) xs (fun v hp => (v = .tt ∧ hp = appL (hpI k) [.res fun _ => Y (k + 1)]) ∨ (v = .ff ∧ hp = appL (hpI k) [.res fun _ => Z])) := by
  intro k xs hk
  have hxs : SV.hsL (hpI 0).length xs = true := hI.hy xs (List.mem_of_getElem? hk)
  rw [happ]
  refine ⟨hsI _ _, hsL_mono (by simp [hL k]) xs hxs, fun w1 D1 hd1 => ?_⟩
  rw [hbI] at hd1 ⊢
  obtain ⟨q, t, ht, hd2⟩ := unpack (A := hpI k) (b' := bases (hpI 0) ++ [(none, 1)]) (l := lY k) (fun q => ⟨_, by rw [hG], _, hbR _ _ _⟩) (hI.hx k) hd1
  rw [hG] at ht
  have ht : t = .res (fun _ => RecR l r0) :: hpb q.1 := (List.append_cancel_left ht).symm
  subst ht
  let Γ' : Ctx := ⟨P, w1, D1, bases (hpI 0) ++ [(none, 1)]⟩
  have hrec : w1.heap[l]? = some (.loop r0) := by
   obtain ⟨S, hS⟩ := hd2.at (k := (hpI k).length) (c := .res fun _ => RecR l r0) (by rw [List.getElem?_append_right (Nat.le_refl _), Nat.sub_self]; rfl)
   exact hS.1
  have hinv : (invoke (.fn (.yield l) #[]) (#[] ++ (SV.denL (bases (hpI 0) ++ [(none, 1)]) xs).toArray)).run P w1 =
    .ok (.round l r0.fn ((ps.zip (SV.denL (bases (hpI 0) ++ [(none, 1)]) xs)).foldl (fun tmps (t, a) => tmps.setIfInBounds t a) r0.tmps) asgC bodyC) w1 := by
   have h1 := run_yield (P := P) (args := (SV.denL (bases (hpI 0) ++ [(none, 1)]) xs).toArray) hrec (by rw [hr0.params]; simp [hlen xs (List.mem_of_getElem? hk)])
   rw [hr0.params, hr0.asg, hr0.body] at h1
   simp only [List.zip_toArray] at h1
   simpa [invoke] using h1
  unfold VCalls
  simp only
  rw [hinv]
  simp only
  have hR1 := hround k q.1 xs Γ' (RecR l r0) (RecR l { r0 with state := .busy }) hk q.2 rfl (by simp [Γ'])
  have hden : Den Γ' ⟨n, putPs ps xs tm, hpI k ++ .res (fun _ => RecR l r0) :: hpb q.1, []⟩ { tmps := (ps.zip (SV.denL (bases (hpI 0) ++ [(none, 1)]) xs)).foldl (fun tmps (t, a) => tmps.setIfInBounds t a) r0.tmps, defers := [] } w1 := by
   refine ⟨⟨by rw [size_fold]; exact hr0.size, rfl, by simp, fun t x hx => ?_⟩, hd2⟩
   have e : SV.denL (bases (hpI 0) ++ [(none, 1)]) xs = SV.denL (bases (hpI k ++ .res (fun _ => RecR l r0) :: hpb q.1)) xs := by
    rw [hbR, List.append_assoc, denI xs _ hxs, denI xs _ hxs]
   rw [e]
   refine putPs_ok ps xs tm _ r0.tmps (hsL_mono (by simp [hL k]) xs hxs) ?_ (fun p hp => by rw [hr0.size]; exact hr0.ps p hp) t x hx
   intro t x hx
   obtain ⟨g1, g2⟩ := hr0.tm t x hx
   obtain ⟨_, _, bs, hbs⟩ := hpb1 q.1
   have hb2 : bases (hpI k ++ .res (fun _ => RecR l r0) :: hpb q.1) = bases (hpI 0 ++ .res (fun _ => RecR l r0) :: hpb q0) ++ bs := by rw [hbR, hbR, hbs]; simp
   have hl2 := congrArg List.length hb2
   simp only [bases_length, List.length_append] at hl2 g2 ⊢
   exact ⟨by rw [hb2, den_ext _ _ x (by simpa using g2)]; exact g1, hs_mono (by omega) x g2⟩
  rw [appL_eq] at hR1
  refine roundIn_of_wpIn trivial (wpIn_mono (hasg Γ' l _ _ _ _ _ _ rfl hR1 hden) ?_)
  rintro e a2 w2 hq
  cases e with
  | normal =>
   obtain ⟨st, hmid, hden2⟩ := hq
   unfold midR at hmid
   split at hmid
   ·rename_i r hr
    obtain ⟨⟨hre⟩, hmid⟩ := hmid
    rw [nth_eq] at hr
    have hr : st.hp[(hpI k).length]? = some (.res fun _ => RecR l r0) := by rw [hr]; congr 2; funext u; exact hre
    obtain ⟨hrec2, hden3⟩ := hden2.h.rec { r0 with state := .busy } hr
    refine ⟨_, run_beginRound hrec2 hr0.st, ?_⟩
    have hden4 : Den Γ' ⟨st.n, st.tm, st.hp.set (hpI k).length (.res fun _ => RecR l { r0 with state := .busy }), st.df⟩ a2 (w2.putObj l (.loop { r0 with state := .busy })) := by
     have hb : bases (st.hp.set (hpI k).length (.res fun _ => RecR l { r0 with state := .busy })) = bases st.hp := bases_set hr rfl
     refine ⟨⟨hden2.t.size, by rw [hden2.t.df, hb], by simpa using hden2.t.dh, fun t x hx => ?_⟩, hden3⟩
     rw [hb, List.length_set]
     exact hden2.t.tm t x hx
    refine wpIn_mono (hbody Γ' l _ _ _ _ _ _ rfl hmid hden4) ?_
    have fin : ∀ (C : List Ch → Prop) (a3 : Act) (w3 : World), Aft Γ' (fun st => RoundTo Γ' (hpI k) (RecR l { r0 with state := .busy }) C st.hp) a3 w3 → ∀ rn : Loop, ∃ t, C t ∧ w3.heap[l]? = some (.loop { r0 with state := .busy }) ∧ DenH Γ' (hpI k ++ .res (fun _ => RecR l rn) :: t) (w3.putObj l (.loop rn)) := by
     rintro C a3 w3 ⟨st3, ⟨⟨t, hC, hv⟩⟩, hden5⟩ rn
     have h1 := hv w3 hden5.h
     rw [appL_eq] at h1
     obtain ⟨h2, h3⟩ := h1.rec rn (k := (hpI k).length) (by rw [List.getElem?_append_right (Nat.le_refl _), Nat.sub_self]; rfl)
     refine ⟨t, hC, h2, ?_⟩
     rw [List.set_append_right _ _ (Nat.le_refl _), Nat.sub_self] at h3
     exact h3
    rintro e a3 w3 hq
    cases e with
    | normal =>
     obtain ⟨t, ⟨q', hJ', rfl⟩, h2, h3⟩ := fin _ a3 w3 hq r0
     have hend : (Instr.endRound l none).run P w3 = .ok (.bool true) (w3.putObj l (.loop r0)) := by
      have e0 : ({ r0 with state := .ready, pending := none } : Loop) = r0 := by
       have e1 := hr0.st
       have e2 := hr0.pend
       cases r0
       simp only at e1 e2
       subst e1; subst e2
       rfl
      rw [run_endRound none h2]
      show Result.ok (Value.bool true) (w3.putObj l (.loop { r0 with state := .ready, pending := none })) = _
      rw [e0]
     refine ⟨_, _, hend, .tt, hpI k ++ [.res fun _ => Y (k + 1)], rfl, rfl, ?_, ⟨[], by rw [hbI, hbI, List.append_nil]⟩, .inl ⟨rfl, (happ _ _).symm⟩⟩
     have hp5 := pack_in (l := lY (k + 1)) ⟨q', hJ'⟩ (by rw [hG]) (exY _ _ (hpb1 q').1) (hI.hx k) h3
     rw [hI.hb k] at hp5
     exact hp5
    | ret =>
     obtain ⟨t, ⟨q', hj, rfl⟩, h2, h3⟩ := fin _ a3 w3 hq (rz none)
     have hend : (Instr.endRound l (some .ret)).run P w3 = .ok (.bool false) (w3.putObj l (.loop (rz none))) := by
      rw [run_endRound (some .ret) h2]
      rfl
     refine ⟨_, _, hend, .ff, hpI k ++ [.res fun _ => Z], rfl, rfl, ?_, ⟨[], by rw [hbI, hbI, List.append_nil]⟩, .inr ⟨rfl, (happ _ _).symm⟩⟩
     have hp5 := pack_in (l := lZ) q' (by simp only [lZ, hj, hG]) (exY _ _ (hpz1 q').1) (hI.hx k) h3
     rw [hI.hb k] at hp5
     exact hp5
    | exit id =>
     obtain ⟨t, ⟨q', hj, rfl⟩, h2, h3⟩ := fin _ a3 w3 hq (rz (some id))
     have hend : (Instr.endRound l (some (.exit id))).run P w3 = .ok (.bool false) (w3.putObj l (.loop (rz (some id)))) := by
      rw [run_endRound (some (.exit id)) h2]
      rfl
     refine ⟨_, _, hend, .ff, hpI k ++ [.res fun _ => Z], rfl, rfl, ?_, ⟨[], by rw [hbI, hbI, List.append_nil]⟩, .inr ⟨rfl, (happ _ _).symm⟩⟩
     have hp5 := pack_in (l := lZ) q' (by simp only [lZ, hj, hG]) (exY _ _ (hpz1 q').1) (hI.hx k) h3
     rw [hI.hb k] at hp5
     exact hp5
    | goto _ => exact hq.elim
    | panic _ => exact hq.elim
    | outgrown => exact hq.elim
   ·exact hmid.elim
  | ret => obtain ⟨_, h, _⟩ := hq; exact h.elim
  | exit id => obtain ⟨_, h, _⟩ := hq; exact h.elim
  | goto _ => exact hq.elim
  | panic _ => exact hq.elim
  | outgrown => exact hq.elim
 have hsp := hI.sp l Y Z hY
 rw [happ] at hsp
 have hd0 := pack_in (A := hpI 0) (l := lY 0) ⟨q0, hJ0⟩ rfl (exY _ _ (hpb1 q0).1) (hI.hx 0) hd
 have hrun := hsp.run w D (by rw [hbI]; exact hd0)
 have hargs : (SV.denL (bases (hpI 0 ++ [Ch.res fun _ => Y 0])) (appL first (.fn (.yield l) [] [] :: caps))).toArray =
   (SV.denL (bases (hpI 0 ++ .res (fun _ => RecR l r0) :: hpb q0)) first).toArray ++ #[.func (.yield l) #[] #[]] ++ (SV.denL (bases (hpI 0 ++ .res (fun _ => RecR l r0) :: hpb q0)) caps).toArray := by
  have e1 := denI first ([(none, 1)]) hI.hf
  have e2 := denI caps ([(none, 1)]) hI.hc
  have e3 := denI first ((none, 1) :: bases (hpb q0)) hI.hf
  have e4 := denI caps ((none, 1) :: bases (hpb q0)) hI.hc
  rw [hbI, hbR]
  simp only [appL_eq, denL_map, List.map_append, List.map_cons, List.append_assoc, List.cons_append, List.nil_append] at e1 e2 e3 e4 ⊢
  rw [e1, e2, e3, e4]
  simp [SV.den, SV.denL]
 obtain ⟨hcall, hcalls⟩ := hI.calls hrun
 rw [hargs] at hcall hcalls
 refine ⟨_, rfl, hcall, hcalls.mono ?_⟩
 rintro e w' ⟨x, hp', rfl, _, hd', _, hR⟩
 rw [hbI] at hd'
 rcases hR with rfl | ⟨j, rfl⟩
 ·rw [happ] at hd'
  obtain ⟨q, t, ht, hd2⟩ := unpack (A := hpI ys.length) (b' := bases (hpI 0 ++ .res (fun _ => RecR l r0) :: hpb q0)) (l := lY ys.length) (fun q => ⟨_, by rw [hG], by
   obtain ⟨_, _, bs, hbs⟩ := hpb1 q.1
   exact ⟨bs, by rw [hbR, hbR, hbs]; simp⟩⟩) (hI.hx _) hd'
  rw [hG] at ht
  have ht : t = .res (fun _ => RecR l r0) :: hpb q.1 := (List.append_cancel_left ht).symm
  subst ht
  obtain ⟨S, hS⟩ := hd2.at (k := (hpI ys.length).length) (c := .res fun _ => RecR l r0) (by rw [List.getElem?_append_right (Nat.le_refl _), Nat.sub_self]; rfl)
  exact ⟨_, r0, _, _, rfl, by rw [hr0.st]; simp, hS.1, hL _, hd2, (hpb1 q.1).1, .inl ⟨hr0.pend, hend q.1 q.2⟩⟩
 ·rw [happ] at hd'
  obtain ⟨q, t, ht, hd2⟩ := unpack (A := hpI j) (b' := bases (hpI 0 ++ .res (fun _ => RecR l r0) :: hpb q0)) (l := lZ) (fun q => ⟨_, by rw [hG], by
   obtain ⟨_, _, bs, hbs⟩ := hpz1 q
   exact ⟨bs, by rw [hbR, hbR, hbs]; simp⟩⟩) (hI.hx _) hd'
  rw [hG] at ht
  have ht : t = .res (fun _ => RecR l (rz (jz q))) :: hpz q := (List.append_cancel_left ht).symm
  subst ht
  obtain ⟨S, hS⟩ := hd2.at (k := (hpI j).length) (c := .res fun _ => RecR l (rz (jz q))) (by rw [List.getElem?_append_right (Nat.le_refl _), Nat.sub_self]; rfl)
  exact ⟨_, rz (jz q), _, _, rfl, by simp [rz], hS.1, hL _, hd2, (hpz1 q).1, .inr ⟨jz q, rfl, hstop j q⟩⟩
def tmSel (st : List (Nat × SV)) (σ : List Nat) : List (Nat × SV) → Prop
 | [] => True
 | (t, x) :: l => look st t = some (x.ren σ) ∧ tmSel st σ l
def tmHs (n : Nat) : List (Nat × SV) → Bool
 | [] => true
 | (_, x) :: l => match x.hs n with | true => tmHs n l | false => false
theorem tmSel_look : ∀ {tm st : List (Nat × SV)} {σ : List Nat}, tmSel st σ tm → ∀ {t : Nat} {x : SV}, look tm t = some x → look st t = some (x.ren σ)
 | [], _, _, _, t, x, h => by simp [look] at h
 | (s, y) :: l, st, σ, hs, t, x, h => by
  simp only [look] at h
  split at h
  ·rename_i hb
   have := Nat.eq_of_beq_eq_true hb
   subst this
   cases h
   exact hs.1
  ·exact tmSel_look hs.2 h
theorem tmHs_look {n : Nat} : ∀ {tm : List (Nat × SV)}, tmHs n tm = true → ∀ {t : Nat} {x : SV}, look tm t = some x → x.hs n = true
 | [], _, t, x, h => by simp [look] at h
 | (s, y) :: l, hs, t, x, h => by
  simp only [tmHs] at hs
  split at hs
  ·rename_i hy
   simp only [look] at h
   split at h
   ·cases h; exact hy
   ·exact tmHs_look hs h
  ·cases hs
structure RangeP0 (Γ : Ctx) (ps : List Nat) (asg body : XT) (f : FuncId) (first caps : List SV) (st : St) (kn : KS) (ke : Nat → KS) (kr : KS) : Prop where
 h : ∃ (σ : List Nat) (hpI hpB : List Ch) (tml : List (Nat × SV)) (fl cl : List SV), σ.Nodup ∧ first = SV.renL σ fl ∧ caps = SV.renL σ cl ∧ tmSel st.tm σ tml ∧ tmHs (hpI.length + 1 + hpB.length) tml = true ∧ (∀ p ∈ ps, p < st.n) ∧
  (∀ rd rr : RP, selP (appL st.hp [.res fun _ => rd, .res fun _ => rr]) σ σ (appL hpI (.res (fun _ => rr) :: hpB))) ∧
  RangeL0 Γ.P st.n ps asg body f fl cl tml hpI hpB
   (fun t => ∀ d rr r', ownOk (appL hpI (.res (fun _ => rr) :: hpB)) (appL hpI (.res (fun _ => r') :: t)) = true ∧
    kn ⟨st.n, st.tm, after (appL st.hp [.res fun _ => DefR d, .res fun _ => rr]) (appL hpI (.res (fun _ => rr) :: hpB)) (appL hpI (.res (fun _ => r') :: t)) σ, (.yield d, [.bp st.hp.length 0], []) :: st.df⟩)
   (fun t => ∀ d rr r', ownOk (appL hpI (.res (fun _ => rr) :: hpB)) (appL hpI (.res (fun _ => r') :: t)) = true ∧
    kr ⟨st.n, st.tm, after (appL st.hp [.res fun _ => DefR d, .res fun _ => rr]) (appL hpI (.res (fun _ => rr) :: hpB)) (appL hpI (.res (fun _ => r') :: t)) σ, (.yield d, [.bp st.hp.length 0], []) :: st.df⟩)
   (fun id t => ∀ d rr r', ownOk (appL hpI (.res (fun _ => rr) :: hpB)) (appL hpI (.res (fun _ => r') :: t)) = true ∧
    ke id ⟨st.n, st.tm, after (appL st.hp [.res fun _ => DefR d, .res fun _ => rr]) (appL hpI (.res (fun _ => rr) :: hpB)) (appL hpI (.res (fun _ => r') :: t)) σ, (.yield d, [.bp st.hp.length 0], []) :: st.df⟩)
structure RangeP (Γ : Ctx) (ps : List Nat) (asg body : XT) (f : FuncId) (first caps : List SV) (st : St) (kn : KS) (ke : Nat → KS) (kr : KS) : Prop where
 h : ∃ (σ : List Nat) (hpI : Nat → List Ch) (hpB : List Ch) (tml : List (Nat × SV)) (fl cl : List SV), σ.Nodup ∧ first = SV.renL σ fl ∧ caps = SV.renL σ cl ∧ tmSel st.tm σ tml ∧ tmHs ((hpI 0).length + 1 + hpB.length) tml = true ∧ (∀ p ∈ ps, p < st.n) ∧
  (∀ rd rr : RP, selP (appL st.hp [.res fun _ => rd, .res fun _ => rr]) σ σ (appL (hpI 0) (.res (fun _ => rr) :: hpB))) ∧
  RangeL Γ.P st.n ps asg body f fl cl tml hpI hpB
   (fun hE t => ∀ d rr r', ownOk (appL (hpI 0) (.res (fun _ => rr) :: hpB)) (appL hE (.res (fun _ => r') :: t)) = true ∧
    kn ⟨st.n, st.tm, after (appL st.hp [.res fun _ => DefR d, .res fun _ => rr]) (appL (hpI 0) (.res (fun _ => rr) :: hpB)) (appL hE (.res (fun _ => r') :: t)) σ, (.yield d, [.bp st.hp.length 0], []) :: st.df⟩)
   (fun hE t => ∀ d rr r', ownOk (appL (hpI 0) (.res (fun _ => rr) :: hpB)) (appL hE (.res (fun _ => r') :: t)) = true ∧
    kr ⟨st.n, st.tm, after (appL st.hp [.res fun _ => DefR d, .res fun _ => rr]) (appL (hpI 0) (.res (fun _ => rr) :: hpB)) (appL hE (.res (fun _ => r') :: t)) σ, (.yield d, [.bp st.hp.length 0], []) :: st.df⟩)
   (fun id hE t => ∀ d rr r', ownOk (appL (hpI 0) (.res (fun _ => rr) :: hpB)) (appL hE (.res (fun _ => r') :: t)) = true ∧
    ke id ⟨st.n, st.tm, after (appL st.hp [.res fun _ => DefR d, .res fun _ => rr]) (appL (hpI 0) (.res (fun _ => rr) :: hpB)) (appL hE (.res (fun _ => r') :: t)) σ, (.yield d, [.bp st.hp.length 0], []) :: st.df⟩)
theorem RangeP0.to {Γ : Ctx} {ps : List Nat} {asg body : XT} {f : FuncId} {first caps : List SV} {st : St} {kn : KS} {ke : Nat → KS} {kr : KS} (h : RangeP0 Γ ps asg body f first caps st kn ke kr) : RangeP Γ ps asg body f first caps st kn ke kr := by
 obtain ⟨σ, hpI, hpB, tml, fl, cl, h1, h2, h3, h4, h5, h6, h7, h8⟩ := h.h
 exact ⟨σ, fun _ => hpI, hpB, tml, fl, cl, h1, h2, h3, h4, h5, h6, h7, RangeL0.to h8⟩
theorem range_ok {F : Fence} {n : Nat} {Γ : Ctx} (hF : WideF F) (hro : F.round = none) {g : Operand} {ps : List Nat} {asgC bodyC : Code} {asg body : XT} {f : FuncId} {first caps : List SV} {st : St} {kn : KS} {ke : Nat → KS} {kr : KS} {a : Act} {w : World}
  (hasg : ∀ (Γ' : Ctx) (l : Nat) (st : St) (kn : KS) (ke : Nat → KS) (kr : KS) (a : Act) (w : World), Γ'.P = Γ.P → asg Γ' st kn ke kr → Den Γ' st a w → asgC.wpIn (Fence.wide.inRound l) 0 Γ.P (QX Γ' kn ke kr) a w)
  (hbody : ∀ (Γ' : Ctx) (l : Nat) (st : St) (kn : KS) (ke : Nat → KS) (kr : KS) (a : Act) (w : World), Γ'.P = Γ.P → body Γ' st kn ke kr → Den Γ' st a w → bodyC.wpIn (Fence.wide.inRound l) 0 Γ.P (QX Γ' kn ke kr) a w)
  (hg : a.eval g = .func (.func f) (SV.denL (bases st.hp) first).toArray (SV.denL (bases st.hp) caps).toArray) (hvf : SV.hsL st.hp.length first = true) (hvc : SV.hsL st.hp.length caps = true) (h : RangeP Γ ps asg body f first caps st kn ke kr) (hd : Den Γ st a w) :
  (Code.rangeFunc g ps.toArray asgC bodyC).wpIn F n Γ.P (QX Γ kn ke kr) a w := by
 obtain ⟨σ, hpI, hpB, tml, fl, cl, hnd, hfirst, hcaps, html, htmh, hps, hsel, hL⟩ := h.h
 refine wpIn_rangeFunc fun fn _ => ?_
 let dB := w.heap.size
 let l := w.heap.size + 1
 let r0 : Loop := { state := .ready, pending := none, fn, tmps := a.tmps, params := ps.toArray, assign := asgC, body := bodyC, defers := dB }
 let w2 := (w.alloc (.deferred (some []))).alloc (.loop r0)
 have hent : (Instr.enterLoop fn a.tmps ps.toArray asgC bodyC F.round).run Γ.P w = .ok (l, [{ target := .collected dB, args := #[] }]) w2 := by rw [hro]; exact run_enterLoop_outer fn a.tmps ps.toArray asgC bodyC
 let hpc := appL st.hp [.res fun _ => DefR dB, .res fun _ => RecR l r0]
 have hpce : hpc = (st.hp ++ [.res fun _ => DefR dB]) ++ [.res fun _ => RecR l r0] := by simp [hpc, appL_eq]
 have hext0 : ExtB st.hp hpc := ⟨[(none, 1), (none, 1)], by rw [hpce]; simp [bases, Ch.base]⟩
 have hdc : DenH Γ hpc w2 := by
  rw [hpce]
  refine DenH.push (DenH.push hd.h (.deferred (some [])) (.res fun _ => DefR dB) ?_) (.loop r0) (.res fun _ => RecR l r0) ?_
  ·exact ⟨World.alloc_heap_new _ _, fun x => Iff.rfl⟩
  ·refine ⟨?_, fun x => ?_⟩
   ·have := World.alloc_heap_new (w.alloc (.deferred (some []))) (.loop r0)
    rw [World.size_alloc] at this
    exact this
   ·rw [World.size_alloc]
 obtain ⟨S, d⟩ := hdc
 have hsel := hsel (DefR dB) (RecR l r0)
 have hapl : ∀ (hpE : List Ch) (r : RP) (t : List Ch), appL hpE (.res (fun _ => r) :: t) = hpE ++ .res (fun _ => r) :: t := fun _ r t => appL_eq _ _
 obtain ⟨α, β, J, hpb, hpz, jz, ys, q0, hI, _, _, hq0, hpb1, _⟩ := hL.h
 have hsl : hsCL (hpI 0 ++ .res (fun _ => RecR l r0) :: hpB).length (hpI 0 ++ .res (fun _ => RecR l r0) :: hpB) = true := by
  rw [hsCL_app, hsCL_mono (by simp) (hI.hx 0)]
  have := (hpb1 q0).2.1
  rw [hq0] at this
  simp only [hsCL, Ch.hsC, Bool.true_and]
  exact hsCL_mono (by simp; omega) this
 rw [hapl (hpI 0)] at hsel
 obtain ⟨hren, din⟩ := frame_in hsel hnd hsl d
 have hrec : RecOk r0 st.n ps asgC bodyC tml (hpI 0 ++ .res (fun _ => RecR l r0) :: hpB) := by
  refine ⟨rfl, rfl, rfl, rfl, rfl, hd.t.size, hps, fun t x hx => ?_⟩
  have h1 := tmSel_look html hx
  have h2 : x.hs (hpI 0 ++ .res (fun _ => RecR l r0) :: hpB).length = true := hs_mono (by simp; omega) x (tmHs_look htmh hx)
  obtain ⟨h3, h4⟩ := hd.t.tm t _ h1
  refine ⟨?_, h2⟩
  rw [h3, ← hext0.den h4, (den_ren hren x h2).1]
 obtain ⟨args, rfl, hcall, hcalls⟩ := rangeL_ok hasg hbody hL hrec ⟨_, din⟩
 have hfl : SV.hsL (hpI 0 ++ .res (fun _ => RecR l r0) :: hpB).length fl = true := hsL_mono (by simp) fl hI.hf
 have hcl : SV.hsL (hpI 0 ++ .res (fun _ => RecR l r0) :: hpB).length cl = true := hsL_mono (by simp) cl hI.hc
 have e1 : SV.denL (bases st.hp) first = SV.denL (bases (hpI 0 ++ .res (fun _ => RecR l r0) :: hpB)) fl := by
  rw [← hext0.denL hvf, hfirst, (denL_ren hren fl (by simpa using hfl)).1]
 have e2 : SV.denL (bases st.hp) caps = SV.denL (bases (hpI 0 ++ .res (fun _ => RecR l r0) :: hpB)) cl := by
  rw [← hext0.denL hvc, hcaps, (denL_ren hren cl (by simpa using hcl)).1]
 rw [e1, e2] at hg
 let dd : Deferred := { target := .fn (.func f) (SV.denL (bases (hpI 0 ++ .res (fun _ => RecR l r0) :: hpB)) cl).toArray, args := (SV.denL (bases (hpI 0 ++ .res (fun _ => RecR l r0) :: hpB)) fl).toArray ++ #[.func (.yield l) #[] #[]] }
 refine ⟨l, [{ target := .collected dB, args := #[] }], w2, dd, w2, f, _, w2, hent, ?_, fun f' _ => hF.fn f', ?_, fun hdep => absurd (hF.depth hdep) (by omega), hF.calls (hcalls.mono ?_)⟩
 ·simp only [resolve, hg, Deferred.ofValue]
  simp [dd, Act.eval]
 ·rw [← hcall]
  rfl
 ·rintro e w' ⟨v, r1, hE, t, rfl, hnb, hl1, hEl, hdt, hxt, hR⟩
  let r' : Loop := { r1 with state := .exhausted }
  have hend := run_endLoop (P := Γ.P) hl1 hnb
  refine ⟨_, _, hend, ?_⟩
  obtain ⟨_, hdt'⟩ := hdt.rec r' (k := hE.length) (by rw [List.getElem?_append_right (Nat.le_refl _), Nat.sub_self]; rfl)
  rw [List.set_append_right _ _ (Nat.le_refl _), Nat.sub_self] at hdt'
  simp only [List.set_cons_zero] at hdt'
  have hextl : ExtB (hpI 0 ++ .res (fun _ => RecR l r0) :: hpB) (hE ++ .res (fun _ => RecR l r') :: t) := let ⟨_, dd⟩ := hdt'; dd.pre
  have back : ∀ K : KS, (∀ d rr r', ownOk (appL (hpI 0) (.res (fun _ => rr) :: hpB)) (appL hE (.res (fun _ => r') :: t)) = true ∧
    K ⟨st.n, st.tm, after (appL st.hp [.res fun _ => DefR d, .res fun _ => rr]) (appL (hpI 0) (.res (fun _ => rr) :: hpB)) (appL hE (.res (fun _ => r') :: t)) σ, (.yield d, [.bp st.hp.length 0], []) :: st.df⟩) →
    Aft Γ K { a with defers := [{ target := .collected dB, args := #[] }] ++ a.defers } (w'.putObj l (.loop r')) := by
   intro K hK
   obtain ⟨hown, hk⟩ := hK dB (RecR l r0) (RecR l r')
   rw [hapl (hpI 0), hapl hE] at hown hk
   obtain ⟨_, hext2, hd2⟩ := frame_out hsel hnd d hdt' hextl hown
   refine ⟨_, hk, ⟨⟨hd.t.size, ?_, ?_, fun t x hx => ?_⟩, hd2⟩⟩
   ·simp only [List.map_cons, List.singleton_append, denD, hd.t.df]
    congr 1
    exact denD_ext (hext0.trans hext2) hd.t.dh
   ·intro x hx
    rcases List.mem_cons.1 hx with rfl | hx
    ·have h1 := hext2.le
     have : st.hp.length < hpc.length := by rw [hpce]; simp
     have h1 : hpc.length ≤ _ := h1
     simp only [SV.hsL, SV.hs, Nat.blt, Bool.and_true, and_true]
     exact Nat.ble_eq_true_of_le (by omega)
    ·exact ⟨hsL_mono (hext0.trans hext2).le _ (hd.t.dh x hx).1, hsL_mono (hext0.trans hext2).le _ (hd.t.dh x hx).2⟩
   ·obtain ⟨g1, g2⟩ := hd.t.tm t x hx
    exact ⟨by rw [(hext0.trans hext2).den g2]; exact g1, hs_mono (hext0.trans hext2).le x g2⟩
  rcases hR with ⟨hp, hK⟩ | ⟨j, hp, hK⟩
  ·split
   ·exact back kn hK
   ·rename_i hq; rw [hp] at hq; cases hq
  ·split
   ·rename_i hq; rw [hp] at hq; cases hq
   ·rename_i hq
    rw [hp] at hq
    cases hq
    cases j with
    | none => exact wpIn_ret (back kr hK)
    | some id => exact wpIn_exit (back (ke id) hK)
structure VIEW (Γ : Ctx) (st : St) (K : KS) : Prop where
 h : ∃ st0, Sub Γ st st0 ∧ K st0
def sx : Ctx → SC → St → KS → (Nat → KS) → KS → Prop
 | Γ, .skip, st, kn, _, _ => kn st
 | Γ, .reg l, st, kn, _, _ => ssteps Γ l st kn
 | Γ, .any p, st, kn, _, _ => splan Γ p st kn
 | Γ, .seq a b, st, kn, ke, kr => sx Γ a st (fun st => sx Γ b st kn ke kr) ke kr
 | Γ, .cond c a b, st, kn, ke, kr => match c with
  | .tmp t => match look st.tm t with
   | some .tt => sx Γ a st kn ke kr
   | some .ff => sx Γ b st kn ke kr
   | some (.bl x) => BR x (fun _ => sx Γ a (st.put t .tt) kn ke kr) (fun _ => sx Γ b (st.put t .ff) kn ke kr)
   | _ => False
  | .const (.bool true) => sx Γ a st kn ke kr
  | .const (.bool false) => sx Γ b st kn ke kr
  | _ => False
 | Γ, .block id c, st, kn, ke, kr => sx Γ c st kn (fun id' st' => match Nat.beq id' id with | true => kn st' | false => ke id' st') kr
 | Γ, .loop c, st, _, ke, kr => LoopP Γ (fun st' k => sx Γ c st' k ke kr) st
 | Γ, .exit id, st, _, ke, _ => ke id st
 | Γ, .ret, st, _, _, kr => kr st
 | Γ, .rangeF g ps asg body, st, kn, ke, kr => VIEW Γ st fun st => evO st.tm g fun v => match v with
  | .fn (.func f) first caps => RangeP Γ ps (fun Γ st kn ke kr => sx Γ asg st kn ke kr) (fun Γ st kn ke kr => sx Γ body st kn ke kr) f first caps st kn ke kr
  | _ => False
theorem sx_ok {P : Program} (hm : P.follows .mixedOrders = true) : ∀ (c : Code) {F : Fence} {n : Nat} {Γ : Ctx} (_ : Γ.P = P) (_ : WideF F) {d : Bool} (_ : F.round = none ∨ d = false) (sc : SC) (kn : KS) (ke : Nat → KS) (kr : KS) (st : St) (a : Act) (w : World),
  comp Γ.P d c = some sc → sx Γ sc st kn ke kr → Den Γ st a w → c.wpIn F n Γ.P (QX Γ kn ke kr) a w := by
 intro c
 induction c with
 | skip =>
  intro F n Γ hP hF d hdr sc kn ke kr st a w hc h hd
  subst hP
  cases hc
  exact wpIn_skip ⟨st, h, hd⟩
 | region id ops draw =>
  intro F n Γ hP hF d hdr sc kn ke kr st a w hc h hd
  subst hP
  simp only [comp] at hc
  split at hc
  ·rename_i sis hsis
   split at hc
   ·rename_i hdef
    have hr : F.round = none ∨ ∀ i ∈ sis, i.o.kd ≠ .defer := by
     rcases hdr with h | h
     ·exact .inl h
     ·rw [h, Bool.false_or] at hdef
      exact .inr (noDef_ok hdef)
    split at hc
    ·cases hc
     have h1 := ssteps_ok (n := n) hF sis hsis hr sis 0 (by simp) h hd
     have hl : sis.length = ops.size := by simpa using (csis_ok hsis).1
     rw [hl, ← List.range_eq_range'] at h1
     exact wpIn_mono (wpIn_region h1) (by rintro e a w ⟨rfl, h⟩; exact h)
    ·have hanc : ∀ (j : Nat) (l : List Nat), (ancs ops.toList [])[j]? = some l → ∀ i ∈ l, Reach ops i j := ancs_ok ops.toList [] (by simp) (by simp)
     have main : ∀ ld p, chkB ops (ancs ops.toList []) sis ld = true → mkPlan sis ld (ancs ops.toList []) ops (ops.size + 1) (Array.replicate ops.size false) [] [] = some p → sc = .any p → (Code.region id ops true).wpIn F n Γ.P (QX Γ kn ke kr) a w := by
      rintro ld p hchk hp rfl
      have h1 := splan_ok (n := n) hF sis ld hsis hr _ hanc (ops.size + 1) (Array.replicate ops.size false) [] [] p hp (by simp) (by simp) (by simp) [] st a w.drew (by simp) h ⟨hd.t, hd.h.drew⟩
      refine wpIn_mono (wpIn_region_plan hm (chkB_ok hanc hsis hchk) hF.fn ?_ h1) (by rintro e a w ⟨rfl, h⟩; exact h)
      rintro c a a' w ⟨h, _⟩
      cases h
     split at hc
     ·rename_i hchk
      split at hc
      ·rename_i p hp
       exact main _ p hchk hp (by cases hc; rfl)
      ·cases hc
     ·split at hc
      ·rename_i hchk
       split at hc
       ·rename_i p hp
        exact main _ p hchk hp (by cases hc; rfl)
       ·cases hc
      ·cases hc
   ·cases hc
  ·cases hc
 | seq x y ihx ihy =>
  intro F n Γ hP hF d hdr sc kn ke kr st a w hc h hd
  subst hP
  simp only [comp] at hc
  split at hc
  ·rename_i sa sb h1 h2
   cases hc
   refine wpIn_seq (wpIn_mono (ihx rfl hF hdr sa _ ke kr st a w h1 h hd) ?_)
   rintro e a w hq
   cases e with
   | normal =>
    obtain ⟨st', h3, h4⟩ := hq
    exact ihy rfl hF hdr sb kn ke kr st' a w h2 h3 h4
   | exit id => exact hq
   | goto l => exact hq
   | ret => exact hq
   | panic ch => exact hq
   | outgrown => exact hq
  ·cases hc
 | cond c x y ihx ihy =>
  intro F n Γ hP hF d hdr sc kn ke kr st a w hc h hd
  subst hP
  simp only [comp] at hc
  split at hc
  ·rename_i sa sb h1 h2
   cases hc
   simp only [sx] at h
   split at h
   ·rename_i t
    have ev : ∀ v : SV, look st.tm t = some v → a.eval (.tmp t) = v.den (bases st.hp) := fun v hl => by
     have := (hd.t.tm t v hl).1
     simp [Act.eval, this]
    split at h
    ·rename_i hl
     exact wpIn_cond_true (by rw [ev _ hl]; simp [SV.den]) (ihx rfl hF hdr sa kn ke kr st a w h1 h hd)
    ·rename_i hl
     exact wpIn_cond_false (by rw [ev _ hl]; simp [SV.den]) (ihy rfl hF hdr sb kn ke kr st a w h2 h hd)
    ·rename_i b hl
     refine wpIn_cond_split (t := b ()) (by rw [ev _ hl]; simp [SV.den]) (fun hb => ?_) (fun hb => ?_)
     ·exact ihx rfl hF hdr sa kn ke kr _ a w h1 (h.t hb) (den_same hd hl (by simp [SV.den, hb]) rfl)
     ·exact ihy rfl hF hdr sb kn ke kr _ a w h2 (h.f hb) (den_same hd hl (by simp [SV.den, hb]) rfl)
    ·exact h.elim
   ·exact wpIn_cond_true rfl (ihx rfl hF hdr sa kn ke kr st a w h1 h hd)
   ·exact wpIn_cond_false rfl (ihy rfl hF hdr sb kn ke kr st a w h2 h hd)
   ·exact h.elim
  ·cases hc
 | block id c ih =>
  intro F n Γ hP hF d hdr sc kn ke kr st a w hc h hd
  subst hP
  simp only [comp] at hc
  split at hc
  ·rename_i sa h1
   cases hc
   refine wpIn_block (wpIn_mono (ih rfl hF hdr sa _ _ kr st a w h1 h hd) ?_)
   rintro e a w hq
   cases e with
   | exit id' =>
    obtain ⟨st', h3, h4⟩ := hq
    by_cases hid : id' = id
    ·subst hid
     simp only [Exit.inBlock, if_true]
     rw [Nat.beq_refl] at h3
     exact ⟨st', h3, h4⟩
    ·simp only [Exit.inBlock, if_neg hid]
     have : Nat.beq id' id = false := by
      cases hbb : Nat.beq id' id with
      | true => exact absurd (Nat.eq_of_beq_eq_true hbb) hid
      | false => rfl
     rw [this] at h3
     exact ⟨st', h3, h4⟩
   | normal => exact hq
   | goto l => exact hq
   | ret => exact hq
   | panic ch => exact hq
   | outgrown => exact hq
  ·cases hc
 | loop c ih =>
  intro F n Γ hP hF d hdr sc kn ke kr st a w hc h hd
  subst hP
  simp only [comp] at hc
  split at hc
  ·rename_i sa h1
   cases hc
   obtain ⟨ι, J, inv, μ, i0, hJ0, hs, hb⟩ := h.h
   let S : Act → World → Nat → Prop := fun a w m => ∃ i, J i ∧ μ i = m ∧ Den Γ (inv i) a w
   have hS : ∀ a w, (∃ i, J i ∧ Den Γ (inv i) a w) → ∃ m, S a w m ∧ ∀ m', S a w m' → m ≤ m' := by
    rintro a w ⟨i, hj, hi⟩
    have : ∀ k m, m ≤ k → S a w m → ∃ m, S a w m ∧ ∀ m', S a w m' → m ≤ m' := by
     intro k
     induction k with
     | zero => intro m hm hsm; exact ⟨m, hsm, fun m' _ => by omega⟩
     | succ k ihk =>
      intro m hm hsm
      by_cases hex : ∃ m', S a w m' ∧ m' < m
      ·obtain ⟨m', h2, h3⟩ := hex
       exact ihk m' (by omega) h2
      ·exact ⟨m, hsm, fun m' hm' => Nat.le_of_not_lt fun hlt => hex ⟨m', hm', hlt⟩⟩
    exact this (μ i) (μ i) (Nat.le_refl _) ⟨i, hj, rfl, hi⟩
   let M : Act → World → Nat := fun a w => @dite Nat (∃ i, J i ∧ Den Γ (inv i) a w) (Classical.propDecidable _) (fun h => Classical.choose (hS a w h)) (fun _ => 0)
   have hM : ∀ a w, (∃ i, J i ∧ Den Γ (inv i) a w) → S a w (M a w) ∧ ∀ m', S a w m' → M a w ≤ m' := by
    intro a w hex
    have : M a w = Classical.choose (hS a w hex) := by simp only [M]; rw [dif_pos hex]
    rw [this]
    exact Classical.choose_spec (hS a w hex)
   refine wpIn_loop (fun a w => ∃ i, J i ∧ Den Γ (inv i) a w) M ⟨i0, hJ0, hs a w hd⟩ ?_
   intro a w hex
   obtain ⟨⟨i, hj, hi, hdi⟩, _⟩ := hM a w hex
   refine wpIn_mono (ih rfl hF hdr sa _ ke kr (inv i) a w h1 (hb i hj) hdi) ?_
   rintro e a' w' hq
   cases e with
   | normal =>
    obtain ⟨st', ⟨i', hj', h3, h4⟩, h5⟩ := hq
    have h6 := h4 a' w' h5
    refine ⟨⟨i', hj', h6⟩, ?_⟩
    have h7 := (hM a' w' ⟨i', hj', h6⟩).2 (μ i') ⟨i', hj', rfl, h6⟩
    omega
   | exit id => exact hq
   | goto l => exact hq
   | ret => exact hq
   | panic ch => exact hq
   | outgrown => exact hq
  ·cases hc
 | exit id =>
  intro F n Γ hP hF d hdr sc kn ke kr st a w hc h hd
  subst hP
  cases hc
  exact wpIn_exit ⟨st, h, hd⟩
 | ret =>
  intro F n Γ hP hF d hdr sc kn ke kr st a w hc h hd
  subst hP
  cases hc
  exact wpIn_ret ⟨st, h, hd⟩
 | label l =>
  intro F n Γ hP hF d hdr sc kn ke kr st a w hc h hd
  subst hP
  cases hc
  exact wpIn_label ⟨st, h, hd⟩
 | scope c ih =>
  intro F n Γ hP hF d hdr sc kn ke kr st a w hc h hd
  subst hP
  cases d with
  | false => cases hc
  | true =>
   have hro := hdr.resolve_right (by simp)
   have hFw : F = Fence.wide := by
    obtain ⟨r, rfl⟩ := hF.h
    simp only at hro
    subst hro
    rfl
   subst hFw
   have h1 := ih (n := n) rfl hF hdr sc kn ke kr st a w hc h hd
   refine wpIn_wide.2 (wp_scope_straight (wpIn_wide.1 (wpIn_mono h1 ?_)))
   rintro e a w hq
   cases e <;> exact hq
 | rangeFunc g ps ac bc iha ihb =>
  intro F n Γ hP hF d hdr sc kn ke kr st a w hc h hd
  subst hP
  cases d with
  | false => cases hc
  | true =>
   have hro := hdr.resolve_right (by simp)
   simp only [comp] at hc
   split at hc
   ·rename_i sa sb h1 h2
    cases hc
    simp only [sx] at h
    obtain ⟨st0, hsub, h⟩ := h.h
    replace hd := hsub a w hd
    obtain ⟨v, h3, h4, hv⟩ := evO_ok h hd.t.tm
    split at h3
    ·rename_i f first caps
     simp only [SV.hs, Bool.and_eq_true] at hv
     have := range_ok (n := n) (g := g) (ps := ps.toList) (asgC := ac) (bodyC := bc) hF hro
      (fun Γ' l st kn ke kr a w hP' hx hd' => by rw [← hP'] at h1 ⊢; exact iha hP' (wideF_round l) (.inr rfl) sa kn ke kr st a w h1 hx hd')
      (fun Γ' l st kn ke kr a w hP' hx hd' => by rw [← hP'] at h2 ⊢; exact ihb hP' (wideF_round l) (.inr rfl) sb kn ke kr st a w h2 hx hd')
      (by rw [h4]; simp [SV.den]) hv.1 hv.2 h3 hd
     simpa using this
    ·exact h3.elim
   ·cases hc
 | _ => intro F n Γ hP hF d hdr sc kn ke kr st a w hc; cases hc
end Go.Proofs.YtfoffehokhkohaaGreat
