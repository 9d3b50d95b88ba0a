/- Part 7 of what is proved in the last text (packed by a program of mine). -/
import Derived.Test.YtfoffehokhkohaaGreatK06
set_option linter.all false
namespace Go.Proofs.YtfoffehokhkohaaGreat
open Go
def afterB (o : Oper) (i : Nat) : Bool := o.after.toList.any fun e => Region.binds .any e && Nat.beq e.on i
theorem afterB_ok {o : Oper} {i : Nat} (h : afterB o i = true) : ∃ e ∈ o.after, Region.binds .any e = true ∧ e.on = i := by
 unfold afterB at h
 rw [List.any_eq_true] at h
 obtain ⟨e, he, h⟩ := h
 simp only [Bool.and_eq_true] at h
 exact ⟨e, by simpa using he, h.1, Nat.eq_of_beq_eq_true h.2⟩
def isSel (o : Oper) : Bool := match o.op with | .select _ _ => true | _ => false
def dstIs (o : Oper) (d : Nat) : Bool := match o.dst with | some e => Nat.beq e d | none => false
theorem dstIs_iff {o : Oper} {d : Nat} : dstIs o d = true ↔ o.dst = some d := by
 unfold dstIs
 cases o.dst with
 | none => simp
 | some e => simp
def chk1 (j : Nat) (o : Oper) : Bool := o.after.toList.all (fun e => !Region.binds .any e || Nat.blt e.on j) && !isSel o
def betw (anc : List (List Nat)) (sis : List SI) (ld : List Nat) (p j : Nat) : Bool :=
 match nth anc p with
 | some l => l.any fun e => !quietOf sis ld e && (match nth anc e with | some m => memN m j | none => false)
 | none => false
def chk2 (ops : Array Oper) (anc : List (List Nat)) (sis : List SI) (ld : List Nat) (qj : Bool) (p : Nat) (op : Oper) (d : Nat) (j : Nat) (oj : Oper) : Bool :=
 match Nat.beq p j with
 | true => !memN (op.looksAt ops) d
 | false => !(memN (oj.looksAt ops) d || dstIs oj d) || afterB oj p || (afterB op j && !qj) || betw anc sis ld p j
def chk3 (ops : Array Oper) (p : Nat) (op : Oper) (j : Nat) (oj : Oper) : Bool :=
 match Nat.beq p j with
 | true => true
 | false => match oj.dst with
  | some d => !memN (op.looksAt ops) d || afterB op j || afterB oj p
  | none => true
def chkB (ops : Array Oper) (anc : List (List Nat)) (sis : List SI) (ld : List Nat) : Bool :=
 (List.range ops.size).all fun p => match ops[p]? with
  | none => true
  | some op => chk1 p op && (match quietOf sis ld p with
   | false => true
   | true => (List.range ops.size).all fun j => match ops[j]? with
    | none => true
    | some oj => chk3 ops p op j oj && (match op.dst with
     | none => true
     | some d => chk2 ops anc sis ld (quietOf sis ld j) p op d j oj))
theorem betw_ok {ops : Array Oper} {anc : List (List Nat)} (hanc : ∀ (j : Nat) (l : List Nat), anc[j]? = some l → ∀ i ∈ l, Reach ops i j) {sis : List SI} {ld : List Nat} {p j : Nat} (h : betw anc sis ld p j = true) : ∃ e, quietOf sis ld e = false ∧ Reach ops j e ∧ Reach ops e p := by
 unfold betw at h
 split at h
 ·rename_i l hl
  rw [nth_eq] at hl
  rw [List.any_eq_true] at h
  obtain ⟨e, he, h⟩ := h
  simp only [Bool.and_eq_true, Bool.not_eq_true'] at h
  obtain ⟨h1, h2⟩ := h
  split at h2
  ·rename_i m hm
   rw [nth_eq] at hm
   exact ⟨e, h1, hanc e m hm j ((memN_iff _ _).1 h2), hanc p l hl e he⟩
  ·cases h2
 ·cases h
theorem chkB_ok {P : Program} {ops : Array Oper} {anc : List (List Nat)} {sis : List SI} {ld : List Nat} (hanc : ∀ (j : Nat) (l : List Nat), anc[j]? = some l → ∀ i ∈ l, Reach ops i j) (hsis : csis P ops.toList ops.toList = some sis) (h : chkB ops anc sis ld = true) : Chk ops (quietOf sis ld) := by
 have one : ∀ p op, ops[p]? = some op → chk1 p op = true ∧ (quietOf sis ld p = true → ∀ j oj, ops[j]? = some oj → chk3 ops p op j oj = true ∧ ∀ d, op.dst = some d → chk2 ops anc sis ld (quietOf sis ld j) p op d j oj = true) := by
  intro p op hp
  unfold chkB at h
  rw [List.all_eq_true] at h
  have h1 := h p (by simpa using (Array.getElem?_eq_some_iff.1 hp).1)
  simp only [hp, Bool.and_eq_true] at h1
  refine ⟨h1.1, fun hq j oj hj => ?_⟩
  have h2 := h1.2
  simp only [hq] at h2
  rw [List.all_eq_true] at h2
  have h3 := h2 j (by simpa using (Array.getElem?_eq_some_iff.1 hj).1)
  simp only [hj, Bool.and_eq_true] at h3
  refine ⟨h3.1, fun d hd => ?_⟩
  have h4 := h3.2
  simpa only [hd] using h4
 refine ⟨fun j o hj e he hb => ?_, fun j o cs b hj hcon => ?_, fun j o c hj hq hcon => ?_, fun p j op oj d hp hj hne hq hd hcon => ?_, fun p j op oj d hp hj hne hq hd hcon => ?_, fun p op d hp hq hd hcon => ?_⟩
 ·have h1 := (one j o hj).1
  unfold chk1 at h1
  rw [Bool.and_eq_true, List.all_eq_true] at h1
  have h2 := h1.1 e (by simpa using he)
  rw [hb] at h2
  exact blt_lt (by simpa using h2)
 ·have h1 := (one j o hj).1
  unfold chk1 at h1
  rw [Bool.and_eq_true] at h1
  have h2 := h1.2
  unfold isSel at h2
  rw [hcon] at h2
  cases h2
 ·obtain ⟨s, hs, hq⟩ := quietOf_kd hq
  rw [nth_eq] at hs
  obtain ⟨o', ho', hc⟩ := (csis_ok hsis).2 j s hs
  have : ops[j]? = some o' := by simpa using ho'
  rw [hj] at this
  cases this
  exact defer_kd (csi_ok hc).1 (fun hk => by rw [hk] at hq; cases hq) c hcon
 ·have h1 := ((one p op hp).2 hq j oj hj).2 d hd
  unfold chk2 at h1
  have hb : Nat.beq p j = false := by
   cases hbb : Nat.beq p j with
   | true => exact absurd (Nat.eq_of_beq_eq_true hbb) hne
   | false => rfl
  rw [hb] at h1
  simp only [Bool.or_eq_true, Bool.and_eq_true, Bool.not_eq_true', Bool.or_eq_false_iff] at h1
  rcases h1 with ((⟨h1, h2⟩ | h1) | ⟨h1, h2⟩) | h1
  ·exfalso
   rcases hcon with hcon | hcon
   ·rw [(memN_iff _ _).2 hcon] at h1; cases h1
   ·rw [dstIs_iff.2 hcon] at h2; cases h2
  ·exact .inl (afterB_ok h1)
  ·exact .inr (.inl ⟨afterB_ok h1, h2⟩)
  ·exact .inr (.inr (betw_ok hanc h1))
 ·have h1 := ((one p op hp).2 hq j oj hj).1
  unfold chk3 at h1
  have hb : Nat.beq p j = false := by
   cases hbb : Nat.beq p j with
   | true => exact absurd (Nat.eq_of_beq_eq_true hbb) hne
   | false => rfl
  rw [hb] at h1
  simp only [hd, Bool.or_eq_true, Bool.not_eq_true'] at h1
  rcases h1 with (h1 | h1) | h1
  ·rw [(memN_iff _ _).2 hcon] at h1; cases h1
  ·exact .inl (afterB_ok h1)
  ·exact .inr (afterB_ok h1)
 ·have h1 := ((one p op hp).2 hq p op hp).2 d hd
  unfold chk2 at h1
  have hb : Nat.beq p p = true := Nat.beq_refl p
  rw [hb] at h1
  simp only [Bool.not_eq_true'] at h1
  rw [(memN_iff _ _).2 hcon] at h1
  cases h1
inductive SC where
 | skip
 | reg (l : List SI)
 | any (p : PS)
 | seq (a b : SC)
 | cond (c : Operand) (a b : SC)
 | block (id : Nat) (c : SC)
 | loop (c : SC)
 | exit (id : Nat)
 | ret
 | rangeF (g : Operand) (ps : List Nat) (asg body : SC)
def noDef : List SI → Bool
 | [] => true
 | i :: l => match i.o with
  | .defer _ => false
  | _ => noDef l
theorem noDef_ok {l : List SI} (h : noDef l = true) : ∀ i ∈ l, i.o.kd ≠ .defer := by
 induction l with
 | nil => simp
 | cons x l ih =>
  simp only [noDef] at h
  intro i hi
  split at h
  ·cases h
  ·rename_i hne
   rcases List.mem_cons.1 hi with rfl | hi
   ·intro hk
    cases ho : i.o <;> first | exact hne _ ho | (rw [ho] at hk; cases hk)
   ·exact ih h i hi
def assigns : List Oper → Nat → List Nat
 | [], _ => []
 | o :: l, i => match o.op with
  | .assign _ => i :: assigns l (i + 1)
  | _ => assigns l (i + 1)
def comp (P : Program) (d : Bool) : Code → Option SC
 | .skip => some .skip
 | .region _ ops draw => match csis P ops.toList ops.toList with
  | some sis => match d || noDef sis with
   | true => match draw with
    | false => some (.reg sis)
    | true => match chkB ops (ancs ops.toList []) sis [] with
     | true => match mkPlan sis [] (ancs ops.toList []) ops (ops.size + 1) (Array.replicate ops.size false) [] [] with
      | some p => some (.any p)
      | none => none
     | false => match chkB ops (ancs ops.toList []) sis (assigns ops.toList 0) with
      | true => match mkPlan sis (assigns ops.toList 0) (ancs ops.toList []) ops (ops.size + 1) (Array.replicate ops.size false) [] [] with
       | some p => some (.any p)
       | none => none
      | false => none
   | false => none
  | none => none
 | .seq a b => match comp P d a, comp P d b with
  | some a, some b => some (.seq a b)
  | _, _ => none
 | .cond c a b => match comp P d a, comp P d b with
  | some a, some b => some (.cond c a b)
  | _, _ => none
 | .block id c => match comp P d c with
  | some c => some (.block id c)
  | none => none
 | .loop c => match comp P d c with
  | some c => some (.loop c)
  | none => none
 | .exit id => some (.exit id)
 | .ret => some .ret
 | .label _ => some .skip
 | .scope c => match d with
  | true => comp P d c
  | false => none
 | .rangeFunc g ps a b => match d with
  | true => match comp P false a, comp P false b with
   | some x, some y => some (.rangeF g ps.toList x y)
   | _, _ => none
  | false => none
 | _ => none
def Sub (Γ : Ctx) (st st' : St) : Prop := ∀ a w, Den Γ st a w → Den Γ st' a w
structure LoopP (Γ : Ctx) (body : St → KS → Prop) (st : St) : Prop where
 h : ∃ (ι : Type) (J : ι → Prop) (inv : ι → St) (μ : ι → Nat) (i0 : ι), J i0 ∧ Sub Γ st (inv i0) ∧ ∀ i, J i → body (inv i) (fun st' => ∃ i', J i' ∧ μ i' < μ i ∧ Sub Γ st' (inv i'))
end Go.Proofs.YtfoffehokhkohaaGreat
namespace Go.Proofs.YtfoffehokhkohaaGreat
open Go
def nthD (l : List Nat) (i : Nat) : Nat := match nth l i with | some x => x | none => 0
mutual
def SV.ren (σ : List Nat) : SV → SV
 | .bp h off => .bp (nthD σ h) off
 | .ep h i j => .ep (nthD σ h) i j
 | .sl h a off len ext => .sl (nthD σ h) a off len ext
 | .fn f fs cs => .fn f (SV.renL σ fs) (SV.renL σ cs)
 | .agg l => .agg (SV.renL σ l)
 | .tup l => .tup (SV.renL σ l)
 | .int k n => .int k n
 | .bl b => .bl b
 | .tt => .tt
 | .ff => .ff
 | .str s => .str s
 | .nilp => .nilp
 | .pt a => .pt a
 | .op a => .op a
 | .nils => .nils
 | .av k l => .av k l
 | .nilf => .nilf
 | .val v => .val v
def SV.renL (σ : List Nat) : List SV → List SV
 | [] => []
 | x :: l => x.ren σ :: SV.renL σ l
end
def Ch.ren (σ : List Nat) : Ch → Ch
 | .box b ty l ex => .box b ty (SV.renL σ l) ex
 | .arr a n sp cs ex => .arr a n sp cs ex
 | .res r => .res r
 | .gone a k => .gone a k
def renC (σ : List Nat) : List Ch → List Ch
 | [] => []
 | c :: l => c.ren σ :: renC σ l
theorem ren_base (σ : List Nat) (c : Ch) : (c.ren σ).base = c.base := by cases c <;> rfl
theorem renC_map (σ : List Nat) (l : List Ch) : renC σ l = l.map (Ch.ren σ) := by
 induction l with
 | nil => rfl
 | cons c l ih => simp [renC, ih]
theorem renL_map (σ : List Nat) (l : List SV) : SV.renL σ l = l.map (SV.ren σ) := by
 induction l with
 | nil => rfl
 | cons c l ih => simp [SV.renL, ih]
def RenOk (σ : List Nat) (n : Nat) (bs bs' : List Base) : Prop := ∀ h, h < n → nthD σ h < bs'.length ∧ bs'[nthD σ h]? = bs[h]?
mutual
theorem den_ren {σ : List Nat} {n : Nat} {bs bs' : List Base} (hr : RenOk σ n bs bs') : ∀ (x : SV), x.hs n = true → (x.ren σ).den bs' = x.den bs ∧ (x.ren σ).hs bs'.length = true
 | .bp h off, hh => by
  obtain ⟨h1, h2⟩ := hr h (blt_lt hh)
  exact ⟨by simp [SV.ren, SV.den, baseA, h2], by simp [SV.ren, SV.hs, Nat.blt]; omega⟩
 | .ep h i j, hh => by
  obtain ⟨h1, h2⟩ := hr h (blt_lt hh)
  exact ⟨by simp [SV.ren, SV.den, baseA, baseK, h2], by simp [SV.ren, SV.hs, Nat.blt]; omega⟩
 | .sl h a off len ext, hh => by
  obtain ⟨h1, h2⟩ := hr h (blt_lt hh)
  exact ⟨by simp [SV.ren, SV.den, baseA, baseK, h2], by simp [SV.ren, SV.hs, Nat.blt]; omega⟩
 | .fn f fs cs, hh => by
  simp only [SV.hs, Bool.and_eq_true] at hh
  obtain ⟨a1, a2⟩ := denL_ren hr fs hh.1
  obtain ⟨b1, b2⟩ := denL_ren hr cs hh.2
  exact ⟨by simp [SV.ren, SV.den, a1, b1], by simp [SV.ren, SV.hs, a2, b2]⟩
 | .agg l, hh => by
  obtain ⟨a1, a2⟩ := denL_ren hr l hh
  exact ⟨by simp [SV.ren, SV.den, a1], by simpa [SV.ren, SV.hs] using a2⟩
 | .tup l, hh => by
  obtain ⟨a1, a2⟩ := denL_ren hr l hh
  exact ⟨by simp [SV.ren, SV.den, a1], by simpa [SV.ren, SV.hs] using a2⟩
 | .int .., _ | .bl .., _ | .tt, _ | .ff, _ | .str .., _ | .nilp, _ | .pt .., _ | .op .., _ | .nils, _ | .av .., _ | .nilf, _ | .val .., _ => by simp [SV.ren, SV.den, SV.hs]
theorem denL_ren {σ : List Nat} {n : Nat} {bs bs' : List Base} (hr : RenOk σ n bs bs') : ∀ (l : List SV), SV.hsL n l = true → SV.denL bs' (SV.renL σ l) = SV.denL bs l ∧ SV.hsL bs'.length (SV.renL σ l) = true
 | [], _ => ⟨rfl, rfl⟩
 | x :: l, hh => by
  simp only [SV.hsL, Bool.and_eq_true] at hh
  obtain ⟨a1, a2⟩ := den_ren hr x hh.1
  obtain ⟨b1, b2⟩ := denL_ren hr l hh.2
  exact ⟨by simp [SV.renL, SV.denL, a1, b1], by simp [SV.renL, SV.hsL, a2, b2]⟩
end
theorem ren_one (σ : List Nat) (x : SV) : (x.ren σ).one = x.one := by cases x <;> rfl
theorem renL_one (σ : List Nat) (l : List SV) : (SV.renL σ l).all SV.one = l.all SV.one := by
 rw [renL_map, List.all_map]
 congr 1
 funext x
 exact ren_one σ x
def Ch.excl : Ch → Bool
 | .box _ _ _ ex => ex
 | .arr _ _ _ _ ex => ex
 | .res _ => true
 | .gone _ _ => true
def exclL : List Ch → Bool
 | [] => true
 | c :: l => match c.excl with | true => exclL l | false => false
def Ch.shared : Ch → Ch
 | .box b ty l _ => .box b ty l false
 | .arr a n sp cs _ => .arr a n sp cs false
 | c => c
def fitC (σ : List Nat) (c cc : Ch) : Prop := cc = c.ren σ ∨ (c.excl = false ∧ cc.shared = c.ren σ)
def selP (hpc : List Ch) (σ0 : List Nat) : List Nat → List Ch → Prop
 | [], [] => True
 | h :: σ, c :: l => (∃ cc, nth hpc h = some cc ∧ fitC σ0 c cc) ∧ selP hpc σ0 σ l
 | _, _ => False
theorem selP_ok {hpc : List Ch} {σ0 : List Nat} : ∀ {σ : List Nat} {hpl : List Ch}, selP hpc σ0 σ hpl → σ.length = hpl.length ∧ ∀ (i : Nat) (c : Ch), hpl[i]? = some c → ∃ h cc, σ[i]? = some h ∧ hpc[h]? = some cc ∧ fitC σ0 c cc
 | [], [], _ => by simp
 | h :: σ, c :: l, hs => by
  obtain ⟨⟨cc, h1, h2⟩, h3⟩ := hs
  obtain ⟨h4, h5⟩ := selP_ok h3
  refine ⟨by simp [h4], fun i c' hi => ?_⟩
  cases i with
  | zero =>
   simp only [List.getElem?_cons_zero, Option.some.injEq] at hi
   subst hi
   exact ⟨h, cc, rfl, by rw [← nth_eq]; exact h1, h2⟩
  | succ i => simpa using h5 i c' (by simpa using hi)
 | [], _ :: _, h => h.elim
 | _ :: _, [], h => h.elim
def putBack (σ' : List Nat) : List Nat → List Ch → List Ch → List Ch → List Ch
 | [], _, _, hpc => hpc
 | h :: σ, c :: l, c' :: l', hpc => match c.excl with
  | true => putBack σ' σ l l' (hpc.set h (c'.ren σ'))
  | false => putBack σ' σ l l' hpc
 | _ :: _, _, _, hpc => hpc
def upTo : Nat → Nat → List Nat
 | _, 0 => []
 | a, n + 1 => a :: upTo (a + 1) n
def ren' (hpc hpl' : List Ch) (σ : List Nat) : List Nat := appL σ (upTo hpc.length (hpl'.length - σ.length))
def after (hpc hpl hpl' : List Ch) (σ : List Nat) : List Ch :=
 appL (putBack (ren' hpc hpl' σ) σ hpl hpl' hpc) (renC (ren' hpc hpl' σ) (hpl'.drop σ.length))
def ownOk : List Ch → List Ch → Bool
 | [], l' => exclL l'
 | c :: l, c' :: l' => match c.excl, c'.excl with
  | true, false => false
  | _, _ => ownOk l l'
 | _ :: _, [] => false
theorem putBack_length (σ' : List Nat) : ∀ (σ : List Nat) (l l' hpc : List Ch), (putBack σ' σ l l' hpc).length = hpc.length
 | [], _, _, _ => rfl
 | h :: σ, c :: l, c' :: l', hpc => by
  simp only [putBack]
  split
  ·rw [putBack_length]; simp
  ·rw [putBack_length]
 | _ :: _, [], _, _ => rfl
 | _ :: _, _ :: _, [], _ => rfl
theorem putBack_get (σ' : List Nat) : ∀ (σ : List Nat) (l l' hpc : List Ch), σ.Nodup → (∀ h ∈ σ, h < hpc.length) → σ.length = l.length → σ.length ≤ l'.length → ∀ h,
  (∃ (i : Nat) (c c' : Ch), σ[i]? = some h ∧ l[i]? = some c ∧ l'[i]? = some c' ∧ c.excl = true ∧ (putBack σ' σ l l' hpc)[h]? = some (c'.ren σ')) ∨
  ((∀ (i : Nat) (c : Ch), σ[i]? = some h → l[i]? = some c → c.excl = false) ∧ (putBack σ' σ l l' hpc)[h]? = hpc[h]?)
 | [], l, l', hpc, _, _, _, _, h => .inr ⟨by simp, rfl⟩
 | k :: σ, [], _, _, _, _, hl, _, _ => by simp at hl
 | k :: σ, _ :: _, [], _, _, _, _, hl, _ => by simp at hl
 | k :: σ, c :: l, c' :: l', hpc, hnd, hlt, hl, hl', h => by
  rw [List.nodup_cons] at hnd
  simp only [List.length_cons] at hl hl'
  simp only [putBack]
  have hk : k < hpc.length := hlt k List.mem_cons_self
  split
  ·rename_i hex
   rcases putBack_get σ' σ l l' (hpc.set k (c'.ren σ')) hnd.2 (fun h hh => by rw [List.length_set]; exact hlt h (List.mem_cons_of_mem _ hh)) (by omega) (by omega) h with ⟨i, d, d', h1, h2, h3, h4, h5⟩ | ⟨h1, h2⟩
   ·exact .inl ⟨i + 1, d, d', by simpa using h1, by simpa using h2, by simpa using h3, h4, h5⟩
   ·by_cases hkh : k = h
    ·subst hkh
     refine .inl ⟨0, c, c', rfl, rfl, rfl, hex, ?_⟩
     rw [h2, List.getElem?_set_self hk]
    ·refine .inr ⟨fun i d hi hd => ?_, ?_⟩
     ·cases i with
      | zero => simp at hi; exact absurd hi hkh
      | succ i => exact h1 i d (by simpa using hi) (by simpa using hd)
     ·rw [h2, List.getElem?_set_ne hkh]
  ·rename_i hex
   rcases putBack_get σ' σ l l' hpc hnd.2 (fun h hh => hlt h (List.mem_cons_of_mem _ hh)) (by omega) (by omega) h with ⟨i, d, d', h1, h2, h3, h4, h5⟩ | ⟨h1, h2⟩
   ·exact .inl ⟨i + 1, d, d', by simpa using h1, by simpa using h2, by simpa using h3, h4, h5⟩
   ·refine .inr ⟨fun i d hi hd => ?_, h2⟩
    cases i with
    | zero => simp at hd; subst hd; simpa using hex
    | succ i => exact h1 i d (by simpa using hi) (by simpa using hd)
def Ch.hsC (n : Nat) : Ch → Bool
 | .box _ _ l _ => SV.hsL n l
 | _ => true
def hsCL (n : Nat) : List Ch → Bool
 | [] => true
 | c :: l => match c.hsC n with | true => hsCL n l | false => false
theorem hsCL_at {n : Nat} : ∀ {l : List Ch}, hsCL n l = true → ∀ (i : Nat) (c : Ch), l[i]? = some c → c.hsC n = true
 | [], _, i, c, h => by simp at h
 | d :: l, hl, i, c, h => by
  simp only [hsCL] at hl
  split at hl
  ·rename_i hd
   cases i with
   | zero => simp at h; subst h; exact hd
   | succ i => exact hsCL_at hl i c (by simpa using h)
  ·cases hl
theorem fitC_base {σ : List Nat} {c cc : Ch} (h : fitC σ c cc) : cc.base = c.base := by
 rcases h with rfl | ⟨_, h⟩
 ·exact ren_base σ c
 ·have := congrArg Ch.base h
  rw [ren_base] at this
  rw [← this]
  cases cc <;> rfl
theorem ownOk_at : ∀ {l l' : List Ch}, ownOk l l' = true → l.length ≤ l'.length ∧ (∀ (i : Nat) (c c' : Ch), l[i]? = some c → l'[i]? = some c' → c.excl = true → c'.excl = true) ∧ (∀ (j : Nat) (c' : Ch), l'[l.length + j]? = some c' → c'.excl = true)
 | [], l', h => by
  refine ⟨Nat.zero_le _, by simp, fun j c' hj => ?_⟩
  have : ∀ {l : List Ch}, exclL l = true → ∀ (j : Nat) (c : Ch), l[j]? = some c → c.excl = true := by
   intro l
   induction l with
   | nil => intro _ j c h; simp at h
   | cons d l ih =>
    intro hl j c hj
    simp only [exclL] at hl
    split at hl
    ·rename_i hd
     cases j with
     | zero => simp at hj; subst hj; exact hd
     | succ j => exact ih hl j c (by simpa using hj)
    ·cases hl
  simp only [ownOk] at h
  exact this h j c' (by simpa using hj)
 | c :: l, [], h => by simp [ownOk] at h
 | c :: l, c' :: l', h => by
  simp only [ownOk] at h
  split at h
  ·cases h
  ·rename_i hne
   obtain ⟨h1, h2, h3⟩ := ownOk_at h
   refine ⟨by simp; omega, fun i d d' hi hi' hx => ?_, fun j d hj => ?_⟩
   ·cases i with
    | zero =>
     simp at hi hi'
     subst hi; subst hi'
     cases hd : c'.excl with
     | true => rfl
     | false => exact (hne hx hd).elim
    | succ i => exact h2 i d d' (by simpa using hi) (by simpa using hi') hx
   ·rw [List.length_cons, show l.length + 1 + j = (l.length + j) + 1 by omega] at hj
    exact h3 j d (by simpa using hj)
theorem nodup_get : ∀ {σ : List Nat} (_ : σ.Nodup) {i j k : Nat} (_ : σ[i]? = some k) (_ : σ[j]? = some k), i = j
 | [], _, i, j, k, h, _ => by simp at h
 | x :: σ, hn, i, j, k, hi, hj => by
  rw [List.nodup_cons] at hn
  cases i with
  | zero =>
   cases j with
   | zero => rfl
   | succ j =>
    simp at hi hj
    subst hi
    exact absurd (List.mem_of_getElem? hj) hn.1
  | succ i =>
   cases j with
   | zero =>
    simp at hi hj
    subst hj
    exact absurd (List.mem_of_getElem? hi) hn.1
   | succ j => exact congrArg (· + 1) (nodup_get hn.2 (i := i) (j := j) (k := k) (by simpa using hi) (by simpa using hj))
def Lent (hpl : List Ch) (σ : List Nat) (S : Nat → Nat → Prop) (i x : Nat) : Prop := ∃ (c : Ch) (h : Nat), hpl[i]? = some c ∧ c.excl = true ∧ σ[i]? = some h ∧ S h x
def LentAny (hpl : List Ch) (σ : List Nat) (S : Nat → Nat → Prop) (x : Nat) : Prop := ∃ i, Lent hpl σ S i x
theorem frame_in {Γ : Ctx} {hpc hpl : List Ch} {σ : List Nat} {w : World} (hsel : selP hpc σ σ hpl) (hnd : σ.Nodup) (hhs : hsCL hpl.length hpl = true) {S : Nat → Nat → Prop} (d : DenS Γ hpc w S) :
  RenOk σ hpl.length (bases hpl) (bases hpc) ∧
  DenS ⟨Γ.P, w, LentAny hpl σ S, bases hpl⟩ hpl w (Lent hpl σ S) := by
 obtain ⟨hlen, hat⟩ := selP_ok hsel
 have hren : RenOk σ hpl.length (bases hpl) (bases hpc) := by
  intro i hi
  obtain ⟨h, cc, h1, h2, h3⟩ := hat i hpl[i] (by simp [hi])
  have e : nthD σ i = h := by simp [nthD, nth_eq, h1]
  rw [e]
  refine ⟨by simpa using (List.getElem?_eq_some_iff.1 h2).1, ?_⟩
  simp [bases, h2, hi, fitC_base h3]
 refine ⟨hren, ?_⟩
 have notD : ∀ (i : Nat) (c : Ch) (h : Nat), hpl[i]? = some c → c.excl = false → σ[i]? = some h → ∀ b, (S h b ∨ (b < Γ.w0.heap.size ∧ ¬ Γ.D b)) → ¬ LentAny hpl σ S b := by
  rintro i c h hi hex hσ b hb ⟨i', c', h', hi', hex', hσ', hS'⟩
  rcases hb with hb | ⟨h1, h2⟩
  ·have := d.dj h h' b hb hS'
   subst this
   have := nodup_get hnd hσ hσ'
   subst this
   rw [hi] at hi'
   cases hi'
   rw [hex] at hex'; cases hex'
  ·exact h2 (d.own h' b hS' h1)
 refine ⟨Fr.refl _ _, ?_, ?_, fun i x h _ => ⟨i, h⟩, fun i x ⟨c, h, _, _, _, h4⟩ => d.dom h x h4, fun i x ⟨c, h, h1, _⟩ => (List.getElem?_eq_some_iff.1 h1).1, ⟨[], by simp⟩⟩
 ·intro i c hi
  obtain ⟨h, cc, hσ, hcc, hfit⟩ := hat i c hi
  have hc := d.ch h cc hcc
  have hSl : c.excl = true → Lent hpl σ S i = S h := by
   intro hex
   funext x; apply propext
   constructor
   ·rintro ⟨c', h', h1, h2, h3, h4⟩
    rw [hσ] at h3
    cases h3
    exact h4
   ·exact fun hx => ⟨c, h, hi, hex, hσ, hx⟩
  have hSn : c.excl = false → ∀ x, ¬ Lent hpl σ S i x := by
   rintro hex x ⟨c', h', h1, h2, _, _⟩
   rw [hi] at h1
   cases h1
   rw [hex] at h2; cases h2
  have hnD := notD i c h hi
  have shareOk : ∀ b ex, c.excl = false → (if ex = true then S h b else (∀ x, ¬ S h x) ∧ b < Γ.w0.heap.size ∧ ¬ Γ.D b) → b < w.heap.size ∧ ¬ LentAny hpl σ S b := by
   intro b ex hex hb
   cases ex with
   | true =>
    simp only [if_true] at hb
    exact ⟨d.dom h b hb, hnD hex hσ b (.inl hb)⟩
   | false =>
    simp only [Bool.false_eq_true, if_false] at hb
    exact ⟨Nat.lt_of_lt_of_le hb.2.1 d.fr.size, hnD hex hσ b (.inr hb.2)⟩
  have hhc := hsCL_at hhs i c hi
  cases c with
  | box b ty l ex =>
   obtain ⟨e1, e2⟩ := denL_ren hren l hhc
   have key : ∃ ex', cc = .box b ty (SV.renL σ l) ex' ∧ (ex = true → ex' = true) := by
    rcases hfit with h1 | ⟨h1, h2⟩
    ·exact ⟨ex, h1, id⟩
    ·simp only [Ch.excl] at h1
     subst h1
     cases cc <;> simp only [Ch.shared, Ch.ren, reduceCtorEq, Ch.box.injEq] at h2
     rename_i ex'
     exact ⟨ex', by rw [h2.1, h2.2.1, h2.2.2.1], by simp⟩
   obtain ⟨ex', rfl, hexx⟩ := key
   obtain ⟨a1, a2, a3, a4⟩ := hc
   refine ⟨by rw [a1, e1], by simpa using (show SV.hsL hpl.length l = true from hhc), by rw [← renL_one σ]; exact a3, ?_⟩
   cases ex with
   | true =>
    rw [hexx rfl] at a4
    simp only [if_true] at a4 ⊢
    rw [hSl rfl]; exact a4
   | false =>
    simp only [Bool.false_eq_true, if_false]
    refine ⟨hSn rfl, shareOk b ex' rfl ?_⟩
    cases ex' with
    | true => simp only [if_true] at a4 ⊢; exact (a4 b).2 rfl
    | false => simpa using a4
  | arr a n sp cs ex =>
   have key : ∃ ex', cc = .arr a n sp cs ex' ∧ (ex = true → ex' = true) := by
    rcases hfit with h1 | ⟨h1, h2⟩
    ·exact ⟨ex, h1, id⟩
    ·simp only [Ch.excl] at h1
     subst h1
     cases cc <;> simp only [Ch.shared, Ch.ren, reduceCtorEq, Ch.arr.injEq] at h2
     rename_i ex'
     exact ⟨ex', by rw [h2.1, h2.2.1, h2.2.2.1, h2.2.2.2.1], by simp⟩
   obtain ⟨ex', rfl, hexx⟩ := key
   obtain ⟨a1, a2⟩ := hc
   refine ⟨a1, ?_⟩
   cases a with
   | none =>
    refine ⟨a2.1, a2.2.1, ?_⟩
    rintro x ⟨c', h', _, _, h3, h4⟩
    rw [hσ] at h3
    cases h3
    exact a2.2.2 x h4
   | some ad =>
    obtain ⟨b1, b2, b3, b4⟩ := a2
    refine ⟨b1, b2, b3, ?_⟩
    cases ex with
    | true =>
     rw [hexx rfl] at b4
     simp only [if_true] at b4 ⊢
     rw [hSl rfl]; exact b4
    | false =>
     simp only [Bool.false_eq_true, if_false]
     refine ⟨hSn rfl, shareOk ad.block ex' rfl ?_⟩
     cases ex' with
     | true => simp only [if_true] at b4 ⊢; exact (b4.1 _).2 rfl
     | false => simpa using b4
  | res r =>
   rcases hfit with rfl | ⟨h1, _⟩
   ·show (r ()).R w _
    rw [hSl rfl]; exact hc
   ·cases h1
  | gone a k =>
   rcases hfit with rfl | ⟨h1, _⟩
   ·show ∀ x, ¬ _
    rintro x ⟨c', h', _, _, h3, h4⟩
    rw [hσ] at h3
    cases h3
    exact hc x h4
   ·cases h1
 ·rintro i j x ⟨c, h, h1, h2, h3, h4⟩ ⟨c', h', h1', h2', h3', h4'⟩
  have := d.dj h h' x h4 h4'
  subst this
  exact nodup_get hnd h3 h3'
theorem upTo_get : ∀ (a n i : Nat), i < n → (upTo a n)[i]? = some (a + i)
 | _, 0, i, h => by omega
 | a, n + 1, 0, _ => rfl
 | a, n + 1, i + 1, h => by
  have := upTo_get (a + 1) n i (by omega)
  simp only [upTo, List.getElem?_cons_succ, this]
  congr 1; omega
theorem frame_out {Γ : Ctx} {hpc hpl hpl' : List Ch} {σ : List Nat} {w w' : World} (hsel : selP hpc σ σ hpl) (hnd : σ.Nodup) {S : Nat → Nat → Prop} (d : DenS Γ hpc w S)
  (h' : DenH ⟨Γ.P, w, LentAny hpl σ S, bases hpl⟩ hpl' w') (hx : ExtB hpl hpl') (hown : ownOk hpl hpl' = true) :
  RenOk (ren' hpc hpl' σ) hpl'.length (bases hpl') (bases (after hpc hpl hpl' σ)) ∧ ExtB hpc (after hpc hpl hpl' σ) ∧ DenH Γ (after hpc hpl hpl' σ) w' := by
 obtain ⟨hlen, hat⟩ := selP_ok hsel
 obtain ⟨S', d'⟩ := h'
 obtain ⟨ho1, ho2, ho3⟩ := ownOk_at hown
 obtain ⟨bsx, hbx⟩ := hx
 have hlt : ∀ h ∈ σ, h < hpc.length := by
  intro h hh
  obtain ⟨i, hi, rfl⟩ := List.getElem_of_mem hh
  obtain ⟨h2, cc, h3, h4, _⟩ := hat i (hpl[i]'(by omega)) (by simp [← hlen, hi])
  have : σ[i]? = some σ[i] := by simp [hi]
  rw [this] at h3
  cases h3
  exact (List.getElem?_eq_some_iff.1 h4).1
 have hpb := putBack_get (ren' hpc hpl' σ) σ hpl hpl' hpc hnd hlt hlen (by omega)
 have hpbl : (putBack (ren' hpc hpl' σ) σ hpl hpl' hpc).length = hpc.length := putBack_length _ _ _ _ _
 have hbase : ∀ (i : Nat) (c c' : Ch), hpl[i]? = some c → hpl'[i]? = some c' → c'.base = c.base := by
  intro i c c' h1 h2
  have := congrArg (·[i]?) hbx
  simp only [bases, List.getElem?_map, h2, Option.map_some] at this
  rw [List.getElem?_append_left (by simpa using (List.getElem?_eq_some_iff.1 h1).1)] at this
  simp only [List.getElem?_map, h1, Option.map_some] at this
  exact Option.some.inj this
 have haft : after hpc hpl hpl' σ = putBack (ren' hpc hpl' σ) σ hpl hpl' hpc ++ (hpl'.drop σ.length).map (Ch.ren (ren' hpc hpl' σ)) := by
  unfold after
  rw [appL_eq, renC_map]
 have hnew : ∀ j, (after hpc hpl hpl' σ)[hpc.length + j]? = (hpl'[hpl.length + j]?).map (Ch.ren (ren' hpc hpl' σ)) := by
  intro j
  rw [haft, List.getElem?_append_right (by omega), hpbl, List.getElem?_map, List.getElem?_drop, hlen]
  congr 2; omega
 have hold : ∀ h, h < hpc.length → (after hpc hpl hpl' σ)[h]? = (putBack (ren' hpc hpl' σ) σ hpl hpl' hpc)[h]? := fun h hh => by rw [haft, List.getElem?_append_left (by omega)]
 have hbs : ∀ h, h < hpc.length → (bases (after hpc hpl hpl' σ))[h]? = (bases hpc)[h]? := by
  intro h hh
  simp only [bases, List.getElem?_map, hold h hh]
  rcases hpb h with ⟨i, c, c', h1, h2, h3, _, h5⟩ | ⟨_, h2⟩
  ·rw [h5]
   obtain ⟨h6, cc, h7, h8, h9⟩ := hat i c h2
   rw [h1] at h7
   cases h7
   rw [h8]
   simp only [Option.map_some, ren_base, hbase i c c' h2 h3, fitC_base h9]
  ·rw [h2]
 have hren : RenOk (ren' hpc hpl' σ) hpl'.length (bases hpl') (bases (after hpc hpl hpl' σ)) := by
  intro i hi
  have hl2 : (after hpc hpl hpl' σ).length = hpc.length + (hpl'.length - hpl.length) := by rw [haft]; simp [hpbl, hlen]
  by_cases hil : i < σ.length
  ·have e : nthD (ren' hpc hpl' σ) i = σ[i] := by
    simp [nthD, nth_eq, ren', appL_eq, List.getElem?_append_left hil, hil]
   rw [e]
   have hs : σ[i] < hpc.length := hlt _ (List.getElem_mem hil)
   refine ⟨by simp; omega, ?_⟩
   rw [hbs _ hs]
   obtain ⟨h6, cc, h7, h8, h9⟩ := hat i (hpl[i]'(by omega)) (by simp [← hlen, hil])
   have : σ[i]? = some σ[i] := by simp [hil]
   rw [this] at h7
   cases h7
   have hb := hbase i (hpl[i]'(by omega)) hpl'[i] (by simp [← hlen, hil]) (by simp [hi])
   simp only [bases, List.getElem?_map, h8, Option.map_some, fitC_base h9, List.getElem?_eq_getElem hi, hb]
  ·have e : nthD (ren' hpc hpl' σ) i = hpc.length + (i - σ.length) := by
    simp only [nthD, nth_eq, ren', appL_eq]
    rw [List.getElem?_append_right (by omega), upTo_get _ _ _ (by omega)]
   rw [e]
   refine ⟨by simp; omega, ?_⟩
   have := hnew (i - σ.length)
   rw [show hpl.length + (i - σ.length) = i by omega] at this
   simp only [bases, List.getElem?_map, this, List.getElem?_eq_getElem hi, Option.map_some, ren_base]
 refine ⟨hren, ⟨((hpl'.drop σ.length).map Ch.base), ?_⟩, ?_⟩
 ·rw [haft, bases_append]
  congr 1
  ·apply List.ext_getElem?
   intro h
   by_cases hh : h < hpc.length
   ·have := hbs h hh
    rw [haft, bases_append, List.getElem?_append_left (by simp [hpbl]; exact hh)] at this
    exact this
   ·rw [List.getElem?_eq_none (by simp [hpbl]; omega), List.getElem?_eq_none (by simp; omega)]
  ·simp [bases, List.map_map, Function.comp_def, ren_base]
 have hfr : Fr Γ.D Γ.w0 w' := by
  refine d.fr.trans d'.fr ?_
  rintro x hx ⟨i, c, h, _, _, _, hS⟩
  exact d.own h x hS hx
 have hch : ∀ (i : Nat) (c' : Ch), hpl'[i]? = some c' → c'.excl = true → (c'.ren (ren' hpc hpl' σ)).holds Γ (bases (after hpc hpl hpl' σ)) w' (S' i) := by
  intro i c' hi hex
  have hc := d'.ch i c' hi
  cases c' with
  | box b ty l ex =>
   simp only [Ch.excl] at hex
   subst hex
   obtain ⟨a1, a2, a3, a4⟩ := hc
   obtain ⟨e1, e2⟩ := denL_ren hren l (by simpa using a2)
   exact ⟨by rw [a1, e1], e2, by rw [renL_one]; exact a3, a4⟩
  | arr a n sp cs ex =>
   simp only [Ch.excl] at hex
   subst hex
   obtain ⟨a1, a2⟩ := hc
   refine ⟨a1, ?_⟩
   cases a with
   | none => exact a2
   | some ad => exact a2
  | res r => exact hc
  | gone a k => exact hc
 have hcal : ∀ i x, S' i x → x < w.heap.size → LentAny hpl σ S x := fun i x hS hx => d'.own i x hS hx
 refine ⟨fun h x => (∃ (i : Nat) (c : Ch), σ[i]? = some h ∧ hpl[i]? = some c ∧ c.excl = true ∧ S' i x) ∨ ((∀ (i : Nat) (c : Ch), σ[i]? = some h → hpl[i]? = some c → c.excl = false) ∧ S h x) ∨ (∃ j, h = hpc.length + j ∧ S' (hpl.length + j) x), hfr, ?_, ?_, ?_, ?_, ?_, ?_⟩
 ·intro h c hh
  by_cases hhl : h < hpc.length
  ·rw [hold h hhl] at hh
   rcases hpb h with ⟨i, d0, d1, h1, h2, h3, h4, h5⟩ | ⟨h1, h2⟩
   ·rw [h5] at hh
    cases hh
    have := hch i d1 h3 (ho2 i d0 d1 h2 h3 h4)
    have e : (fun x => (∃ (i : Nat) (c : Ch), σ[i]? = some h ∧ hpl[i]? = some c ∧ c.excl = true ∧ S' i x) ∨ ((∀ (i : Nat) (c : Ch), σ[i]? = some h → hpl[i]? = some c → c.excl = false) ∧ S h x) ∨ (∃ j, h = hpc.length + j ∧ S' (hpl.length + j) x)) = S' i := by
     funext x; apply propext
     constructor
     ·rintro (⟨i', c', g1, g2, g3, g4⟩ | ⟨g1, g2⟩ | ⟨j, g1, g2⟩)
      ·have := nodup_get hnd h1 g1
       subst this
       exact g4
      ·have := g1 i d0 h1 h2
       rw [h4] at this; cases this
      ·omega
     ·exact fun hx => .inl ⟨i, d0, h1, h2, h4, hx⟩
    rw [e]; exact this
   ·rw [h2] at hh
    have hc := d.ch h c hh
    have e : (fun x => (∃ (i : Nat) (c : Ch), σ[i]? = some h ∧ hpl[i]? = some c ∧ c.excl = true ∧ S' i x) ∨ ((∀ (i : Nat) (c : Ch), σ[i]? = some h → hpl[i]? = some c → c.excl = false) ∧ S h x) ∨ (∃ j, h = hpc.length + j ∧ S' (hpl.length + j) x)) = S h := by
     funext x; apply propext
     constructor
     ·rintro (⟨i', c', g1, g2, g3, g4⟩ | ⟨g1, g2⟩ | ⟨j, g1, g2⟩)
      ·have := h1 i' c' g1 g2
       rw [g3] at this; cases this
      ·exact g2
      ·omega
     ·exact fun hx => .inr (.inl ⟨h1, hx⟩)
    rw [e]
    have hkeep := hc.keep d.fr hfr d'.fr.size (fun x hx => d'.fr.keep x (d.dom h x hx) (by
     rintro ⟨i, c2, h2', g1, g2, g3, g4⟩
     have := d.dj h h2' x hx g4
     subst this
     have := h1 i c2 g3 g1
     rw [g2] at this; cases this))
    have hext : ∃ bs2, bases (after hpc hpl hpl' σ) = bases hpc ++ bs2 := by
     refine ⟨(bases (after hpc hpl hpl' σ)).drop hpc.length, ?_⟩
     apply List.ext_getElem?
     intro k
     by_cases hk : k < hpc.length
     ·rw [hbs k hk, List.getElem?_append_left (by simpa using hk)]
     ·rw [List.getElem?_append_right (by simp; omega), List.getElem?_drop]
      congr 1
      simp; omega
    obtain ⟨bs2, hb2⟩ := hext
    rw [hb2]
    exact hkeep.ext
  ·obtain ⟨j, rfl⟩ : ∃ j, h = hpc.length + j := ⟨h - hpc.length, by omega⟩
   rw [hnew j, Option.map_eq_some_iff] at hh
   obtain ⟨c', hc', rfl⟩ := hh
   have := hch (hpl.length + j) c' hc' (ho3 j c' hc')
   have e : (fun x => (∃ (i : Nat) (c : Ch), σ[i]? = some (hpc.length + j) ∧ hpl[i]? = some c ∧ c.excl = true ∧ S' i x) ∨ ((∀ (i : Nat) (c : Ch), σ[i]? = some (hpc.length + j) → hpl[i]? = some c → c.excl = false) ∧ S (hpc.length + j) x) ∨ (∃ j_1, hpc.length + j = hpc.length + j_1 ∧ S' (hpl.length + j_1) x)) = S' (hpl.length + j) := by
    funext x; apply propext
    constructor
    ·rintro (⟨i', c', g1, g2, g3, g4⟩ | ⟨g1, g2⟩ | ⟨j', g1, g2⟩)
     ·have := hlt _ (List.mem_of_getElem? g1); omega
     ·have := d.out _ x g2; omega
     ·have : j' = j := by omega
      subst this; exact g2
    ·exact fun hx => .inr (.inr ⟨j, rfl, hx⟩)
   rw [e]; exact this
 ·
  have sep : ∀ h x i, (∀ (i : Nat) (c : Ch), σ[i]? = some h → hpl[i]? = some c → c.excl = false) → S h x → S' i x → False := by
   intro h x i h1 h2 h3
   obtain ⟨i2, c2, h2', g1, g2, g3, g4⟩ := hcal i x h3 (d.dom h x h2)
   have := d.dj h h2' x h2 g4
   subst this
   have := h1 i2 c2 g3 g1
   rw [g2] at this; cases this
  rintro h k x (⟨i, c, a1, a2, a3, a4⟩ | ⟨a1, a2⟩ | ⟨j, a1, a2⟩) (⟨i', c', b1, b2, b3, b4⟩ | ⟨b1, b2⟩ | ⟨j', b1, b2⟩)
  ·have := d'.dj i i' x a4 b4
   subst this
   rw [a1] at b1; cases b1; rfl
  ·exact (sep k x i b1 b2 a4).elim
  ·have := d'.dj i (hpl.length + j') x a4 b2
   have h3 := (List.getElem?_eq_some_iff.1 a2).1
   omega
  ·exact (sep h x i' a1 a2 b4).elim
  ·exact d.dj h k x a2 b2
  ·exact (sep h x (hpl.length + j') a1 a2 b2).elim
  ·have := d'.dj (hpl.length + j) i' x a2 b4
   have h3 := (List.getElem?_eq_some_iff.1 b2).1
   omega
  ·exact (sep k x (hpl.length + j) b1 b2 a2).elim
  ·have := d'.dj (hpl.length + j) (hpl.length + j') x a2 b2
   omega
 ·rintro h x (⟨i, c, a1, a2, a3, a4⟩ | ⟨a1, a2⟩ | ⟨j, a1, a2⟩) hx
  ·obtain ⟨i2, c2, h2', g1, g2, g3, g4⟩ := hcal i x a4 (Nat.lt_of_lt_of_le hx d.fr.size)
   exact d.own h2' x g4 hx
  ·exact d.own h x a2 hx
  ·obtain ⟨i2, c2, h2', g1, g2, g3, g4⟩ := hcal _ x a2 (Nat.lt_of_lt_of_le hx d.fr.size)
   exact d.own h2' x g4 hx
 ·rintro h x (⟨i, c, a1, a2, a3, a4⟩ | ⟨a1, a2⟩ | ⟨j, a1, a2⟩)
  ·exact d'.dom i x a4
  ·exact Nat.lt_of_lt_of_le (d.dom h x a2) d'.fr.size
  ·exact d'.dom _ x a2
 ·rintro h x (⟨i, c, a1, a2, a3, a4⟩ | ⟨a1, a2⟩ | ⟨j, a1, a2⟩)
  ·have := hlt h (List.mem_of_getElem? a1)
   rw [haft]; simp [hpbl]; omega
  ·have := d.out h x a2
   rw [haft]; simp [hpbl]; omega
  ·have := d'.out _ x a2
   rw [haft]; simp [hpbl, hlen]; omega
 ·obtain ⟨bs, hb⟩ := d.pre
  refine ⟨bs ++ (hpl'.drop σ.length).map Ch.base, ?_⟩
  rw [← List.append_assoc, ← hb, haft, bases_append]
  congr 1
  ·apply List.ext_getElem?
   intro h
   by_cases hh : h < hpc.length
   ·have := hbs h hh
    rw [haft, bases_append, List.getElem?_append_left (by simp [hpbl]; exact hh)] at this
    exact this
   ·rw [List.getElem?_eq_none (by simp [hpbl]; omega), List.getElem?_eq_none (by simp; omega)]
  ·simp [bases, List.map_map, Function.comp_def, ren_base]
structure FnSpec (P : Program) (f : FuncId) (hpl : List Ch) (args : List SV) (R : KV) : Prop where
 hs : hsCL hpl.length hpl = true
 ha : SV.hsL hpl.length args = true
 run : ∀ w D, DenH ⟨P, w, D, bases hpl⟩ hpl w → FCalls P f (SV.denL (bases hpl) args).toArray w (CallPost ⟨P, w, D, bases hpl⟩ hpl R)
theorem FCalls.mono {P : Program} {f : FuncId} {args : Array Value} {w : World} {R R' : Ending → World → Prop} (h : FCalls P f args w R) (hr : ∀ e w', R e w' → R' e w') : FCalls P f args w R' := by
 unfold FCalls at *
 split
 ·rename_i h1; rw [h1] at h; exact Calls.mono h hr
 ·rename_i h1; rw [h1] at h; exact hr _ _ h
 ·rename_i h1 h2
  split at h
  ·rename_i h3; exact (h1 _ _ _ h3).elim
  ·rename_i h3; exact (h2 _ _ h3).elim
  ·exact h
theorem callP_by {Γ : Ctx} {P : Program} (hΓ : Γ.P = P) {f : FuncId} {hpc hpl : List Ch} {args argsl : List SV} {K R : KV} (spec : FnSpec P f hpl argsl R) (σ : List Nat) (hnd : σ.Nodup) (hsel : selP hpc σ σ hpl) (hargs : args = SV.renL σ argsl)
  (hK : ∀ x hpl', R x hpl' → ownOk hpl hpl' = true ∧ K (x.ren (ren' hpc hpl' σ)) (after hpc hpl hpl' σ)) : CallP Γ f args hpc K := by
 subst hΓ
 refine ⟨fun w hd => ?_⟩
 obtain ⟨S, d⟩ := hd
 obtain ⟨hren, din⟩ := frame_in hsel hnd spec.hs d
 have hr := spec.run w (LentAny hpl σ S) ⟨_, din⟩
 have he : SV.denL (bases hpc) args = SV.denL (bases hpl) argsl := by rw [hargs]; exact (denL_ren hren argsl spec.ha).1
 rw [he]
 refine hr.mono ?_
 rintro e w' ⟨x, hpl', rfl, hx, hd', hext, hR⟩
 obtain ⟨hown, hk⟩ := hK x hpl' hR
 obtain ⟨r1, r2, r3⟩ := frame_out hsel hnd d hd' hext hown
 obtain ⟨e1, e2⟩ := den_ren r1 x hx
 exact ⟨x.ren (ren' hpc hpl' σ), _, by rw [e1], by simpa using e2, r3, r2, hk⟩
def initT : Nat → List SV → List (Nat × SV)
 | _, [] => []
 | i, x :: l => (i, x) :: initT (i + 1) l
theorem look_initT : ∀ (i : Nat) (l : List SV) (t : Nat) (x : SV), look (initT i l) t = some x → i ≤ t ∧ l[t - i]? = some x
 | i, [], t, x, h => by simp [initT, look] at h
 | i, y :: l, t, x, h => by
  simp only [initT, look] at h
  split at h
  ·rename_i hb
   have := Nat.eq_of_beq_eq_true hb
   subst this
   cases h
   simp
  ·obtain ⟨h1, h2⟩ := look_initT (i + 1) l t x h
   refine ⟨by omega, ?_⟩
   rw [show t - i = (t - (i + 1)) + 1 by omega]
   simpa using h2
end Go.Proofs.YtfoffehokhkohaaGreat
namespace Go.Proofs.YtfoffehokhkohaaGreat
open Go
structure TT (p : Th Prop) : Prop where
 h : p ()
def eqV0 : SV → SV → Prop
 | .int k a, .int k' b => match k == k' with | true => TT (fun _ => a () = b ()) | false => False
 | .bl a, .bl b => TT (fun _ => a () = b ())
 | .tt, .tt => True
 | .ff, .ff => True
 | .tt, .bl b => TT (fun _ => b () = true)
 | .ff, .bl b => TT (fun _ => b () = false)
 | .bl b, .tt => TT (fun _ => b () = true)
 | .bl b, .ff => TT (fun _ => b () = false)
 | .str a, .str b => TT (fun _ => a () = b ())
 | .nilp, .nilp => True
 | .pt a, .pt b => TT (fun _ => a () = b ())
 | .op a, .op b => TT (fun _ => a () = b ())
 | .nilp, .op b => TT (fun _ => b () = none)
 | .pt a, .op b => TT (fun _ => b () = some (a ()))
 | .bp h o, .bp h' o' => match Nat.beq h h', Nat.beq o o' with | true, true => True | _, _ => False
 | .ep h i j, .ep h' i' j' => match Nat.beq h h', Nat.beq j j' with | true, true => TT (fun _ => i () = i' ()) | _, _ => False
 | .sl h a o l e, .sl h' a' o' l' e' => match Nat.beq h h' with
  | true => TT (fun _ => o () = o' () ∧ l () = l' () ∧ e () = e' () ∧ (l () + e () = 0 → a () = a' ()))
  | false => False
 | .nils, .nils => True
 | .nils, .sl _ a _ l e => TT (fun _ => l () = 0 ∧ e () = 0 ∧ a () = none)
 | .sl _ a _ l e, .nils => TT (fun _ => l () = 0 ∧ e () = 0 ∧ a () = none)
 | .av k l, .av k' l' => match k == k' with | true => TT (fun _ => l () = l' ()) | false => False
 | .nilf, .nilf => True
 | .val v, .val v' => TT (fun _ => v () = v' ())
 | x, y => TT (fun _ => x = y)
theorem eqV0_ok {x y : SV} (h : eqV0 x y) (bs : List Base) : x.den bs = y.den bs := by
 unfold eqV0 at h
 split at h
 ·split at h
  ·rename_i hk
   have := h.h
   simp only [beq_iff_eq] at hk
   simp [SV.den, hk, this]
  ·exact h.elim
 ·simp [SV.den, h.h]
 ·rfl
 ·rfl
 ·simp [SV.den, h.h]
 ·simp [SV.den, h.h]
 ·simp [SV.den, h.h]
 ·simp [SV.den, h.h]
 ·simp [SV.den, h.h]
 ·rfl
 ·simp [SV.den, h.h]
 ·simp [SV.den, h.h]
 ·simp [SV.den, h.h]
 ·simp [SV.den, h.h]
 ·split at h
  ·rename_i h1 h2
   rw [Nat.eq_of_beq_eq_true h1, Nat.eq_of_beq_eq_true h2]
  ·exact h.elim
 ·split at h
  ·rename_i h1 h2
   rw [Nat.eq_of_beq_eq_true h1, Nat.eq_of_beq_eq_true h2]
   simp [SV.den, h.h]
  ·exact h.elim
 ·split at h
  ·rename_i h1
   obtain ⟨e1, e2, e3, e4⟩ := h.h
   rw [Nat.eq_of_beq_eq_true h1]
   simp only [SV.den, ← e1, ← e2, ← e3]
   split
   ·rename_i h0; rw [e4 h0]
   ·rfl
  ·exact h.elim
 ·rfl
 ·obtain ⟨e1, e2, e3⟩ := h.h
  simp [SV.den, e1, e2, e3]
 ·obtain ⟨e1, e2, e3⟩ := h.h
  simp [SV.den, e1, e2, e3]
 ·split at h
  ·rename_i hk
   have := h.h
   simp only [beq_iff_eq] at hk
   simp [SV.den, hk, this]
  ·exact h.elim
 ·rfl
 ·simp [SV.den, h.h]
 ·rw [h.h]
mutual
def eqV : SV → SV → Prop
 | .tup l, .tup m => eqVs l m
 | .agg l, .agg m => eqVs l m
 | x, y => eqV0 x y
def eqVs : List SV → List SV → Prop
 | [], [] => True
 | x :: l, y :: m => eqV x y ∧ eqVs l m
 | _, _ => False
end
mutual
theorem eqV_ok : ∀ {x y : SV}, eqV x y → ∀ bs, x.den bs = y.den bs
 | x, y, h, bs => by
  unfold eqV at h
  split at h
  ·rename_i l m; simp only [SV.den, eqVs_ok h bs]
  ·rename_i l m; simp only [SV.den, eqVs_ok h bs]
  ·exact eqV0_ok h bs
theorem eqVs_ok : ∀ {l m : List SV}, eqVs l m → ∀ bs, SV.denL bs l = SV.denL bs m
 | [], [], _, _ => rfl
 | x :: l, y :: m, h, bs => by
  simp only [eqVs] at h
  simp only [SV.denL, eqV_ok h.1 bs, eqVs_ok h.2 bs]
 | [], _ :: _, h, _ => by simp [eqVs] at h
 | _ :: _, [], h, _ => by simp [eqVs] at h
end
def eqCol : Col → Col → Prop
 | .b8 a, .b8 b => TT (fun _ => a () = b ())
 | .nat k a, .nat k' b => match k == k' with | true => TT (fun _ => a () = b ()) | false => False
 | .int k a, .int k' b => match k == k' with | true => TT (fun _ => a () = b ()) | false => False
 | .bool a, .bool b => TT (fun _ => a () = b ())
 | .str a, .str b => TT (fun _ => a () = b ())
 | .val a, .val b => TT (fun _ => a () = b ())
 | _, _ => False
theorem eqCol_ok {c d : Col} (h : eqCol c d) : c.vals = d.vals := by
 unfold eqCol at h
 split at h <;> (try split at h) <;> first | exact h.elim | (have := h.h; simp_all [Col.vals])
def eqCols : List Col → List Col → Prop
 | [], [] => True
 | c :: l, d :: m => eqCol c d ∧ eqCols l m
 | _, _ => False
theorem eqCols_ok : ∀ {l m : List Col}, eqCols l m → l.length = m.length ∧ ∀ (i : Nat) (c d : Col), l[i]? = some c → m[i]? = some d → c.vals = d.vals
 | [], [], _ => by simp
 | c :: l, d :: m, h => by
  obtain ⟨h1, h2⟩ := h
  obtain ⟨h3, h4⟩ := eqCols_ok h2
  refine ⟨by simp [h3], fun i c' d' hc hd => ?_⟩
  cases i with
  | zero =>
   simp at hc hd
   subst hc; subst hd
   exact eqCol_ok h1
  | succ i => exact h4 i c' d' (by simpa using hc) (by simpa using hd)
 | [], _ :: _, h => h.elim
 | _ :: _, [], h => h.elim
theorem eqCol_nat {c d : Col} (h : eqCol c d) : c.isNat = d.isNat := by
 cases c <;> cases d <;> first | rfl | exact h.elim
theorem plain_eqCols : ∀ {l m : List Col}, eqCols l m → plain l = plain m
 | [], [], _ => rfl
 | c :: l, d :: m, h => by
  have := plain_eqCols h.2
  unfold plain at this ⊢
  rw [List.all_cons, List.all_cons, eqCol_nat h.1, this]
 | [], _ :: _, h => h.elim
 | _ :: _, [], h => h.elim
theorem flat_eqCols {l m : List Col} (h : eqCols l m) (n : Nat) : flat l n = flat m n := by
 obtain ⟨h1, h2⟩ := eqCols_ok h
 apply flat_ext
 ·rw [length_flat, h1]
 ·intro i j c hi hj
  have hjl := (List.getElem?_eq_some_iff.1 hj).1
  have := flat_get m n i j (m[j]'(by omega)) hi (by simp [← h1, hjl])
  rw [h1, this, h2 j c (m[j]'(by omega)) hj (by simp [← h1, hjl])]
def eqC : Ch → Ch → Prop
 | .box b ty l ex, .box b' ty' l' ex' => match ex == ex', l'.all SV.one with
  | true, true => TT (fun _ => b = b' ∧ ty = ty') ∧ eqVs l l'
  | _, _ => False
 | .arr a n sp cs ex, .arr a' n' sp' cs' ex' => match ex == ex' with
  | true => TT (fun _ => a = a' ∧ n () = n' () ∧ sp () = sp' ()) ∧ eqCols cs cs'
  | false => False
 | .res r, .res r' => TT (fun _ => r () = r' ())
 | .gone a k, .gone a' k' => TT (fun _ => a = a' ∧ k = k')
 | c, .gone a' k' => TT (fun _ => c.base = (a', k'))
 | _, _ => False
def eqCs (hp : List Ch) (σ0 : List Nat) : List Nat → List Ch → Prop
 | [], [] => True
 | h :: σ, c :: l => (match nth hp h with | some d => eqC d (c.ren σ0) | none => False) ∧ eqCs hp σ0 σ l
 | _, _ => False
def eqTs (tm : List (Nat × SV)) (σ : List Nat) : List (Nat × SV) → Prop
 | [] => True
 | (t, x) :: l => (match look tm t with | some y => eqV y (x.ren σ) | none => False) ∧ eqTs tm σ l
def hsT (n : Nat) : List (Nat × SV) → Bool
 | [] => true
 | (_, x) :: l => match x.hs n with | true => hsT n l | false => false
def isUp : Nat → Nat → List Nat → Bool
 | _, 0, _ => true
 | a, k + 1, h :: l => match Nat.beq h a with | true => isUp (a + 1) k l | false => false
 | _, _ + 1, [] => false
theorem isUp_get : ∀ {a k : Nat} {l : List Nat}, isUp a k l = true → ∀ i, i < k → l[i]? = some (a + i)
 | a, 0, l, _, i, h => by omega
 | a, k + 1, [], h, i, _ => by simp [isUp] at h
 | a, k + 1, x :: l, h, i, hi => by
  simp only [isUp] at h
  split at h
  ·rename_i hb
   have := Nat.eq_of_beq_eq_true hb
   cases i with
   | zero => simp [this]
   | succ i =>
    have := isUp_get h i (by omega)
    simp only [List.getElem?_cons_succ, this]
    congr 1; omega
  ·cases h
def Ch.isGone : Ch → Bool
 | .gone _ _ => true
 | _ => false
def onceG : List Nat → List Ch → Bool
 | h :: σ, c :: l => match c.isGone with
  | true => onceG σ l
  | false => match notIn h σ l with
   | true => onceG σ l
   | false => false
 | _, _ => true
where
 notIn (h : Nat) : List Nat → List Ch → Bool
 | k :: σ, c :: l => match c.isGone with
  | true => notIn h σ l
  | false => match Nat.beq h k with
   | true => false
   | false => notIn h σ l
 | _, _ => true
theorem notIn_ok {h : Nat} : ∀ {σ : List Nat} {l : List Ch}, onceG.notIn h σ l = true → ∀ (i : Nat) (c : Ch), σ[i]? = some h → l[i]? = some c → c.isGone = true
 | [], l, _, i, c, h1, _ => by simp at h1
 | k :: σ, [], _, i, c, _, h2 => by simp at h2
 | k :: σ, d :: l, hh, i, c, h1, h2 => by
  simp only [onceG.notIn] at hh
  split at hh
  ·rename_i hg
   cases i with
   | zero => simp at h2; subst h2; exact hg
   | succ i => exact notIn_ok hh i c (by simpa using h1) (by simpa using h2)
  ·split at hh
   ·cases hh
   ·rename_i hb
    cases i with
    | zero => simp at h1; subst h1; rw [Nat.beq_refl] at hb; cases hb
    | succ i => exact notIn_ok hh i c (by simpa using h1) (by simpa using h2)
theorem onceG_ok : ∀ {σ : List Nat} {l : List Ch}, onceG σ l = true → ∀ {i i' h : Nat} {c c' : Ch}, σ[i]? = some h → σ[i']? = some h → l[i]? = some c → l[i']? = some c' → c.isGone = false → c'.isGone = false → i = i'
 | [], l, _, i, i', h, c, c', h1, _, _, _, _, _ => by simp at h1
 | k :: σ, [], _, i, i', h, c, c', _, _, h3, _, _, _ => by simp at h3
 | k :: σ, d :: l, hh, i, i', h, c, c', h1, h2, h3, h4, h5, h6 => by
  simp only [onceG] at hh
  cases i with
  | zero =>
   cases i' with
   | zero => rfl
   | succ i' =>
    simp at h1 h3
    subst h1; subst h3
    rw [h5] at hh
    simp only at hh
    split at hh
    ·rename_i hn
     have := notIn_ok hn i' c' (by simpa using h2) (by simpa using h4)
     rw [h6] at this; cases this
    ·cases hh
  | succ i =>
   cases i' with
   | zero =>
    simp at h2 h4
    subst h2; subst h4
    rw [h6] at hh
    simp only at hh
    split at hh
    ·rename_i hn
     have := notIn_ok hn i c (by simpa using h1) (by simpa using h3)
     rw [h5] at this; cases this
    ·cases hh
   | succ i' =>
    have hrest : onceG σ l = true := by
     split at hh
     ·exact hh
     ·split at hh
      ·exact hh
      ·cases hh
    exact congrArg (· + 1) (onceG_ok hrest (by simpa using h1) (by simpa using h2) (by simpa using h3) (by simpa using h4) h5 h6)
theorem eqCs_ok {hp : List Ch} {σ0 : List Nat} : ∀ {σ : List Nat} {l : List Ch}, eqCs hp σ0 σ l → σ.length = l.length ∧ ∀ (i : Nat) (c : Ch), l[i]? = some c → ∃ h d, σ[i]? = some h ∧ hp[h]? = some d ∧ eqC d (c.ren σ0)
 | [], [], _ => by simp
 | h :: σ, c :: l, he => by
  obtain ⟨h1, h2⟩ := he
  obtain ⟨h3, h4⟩ := eqCs_ok h2
  refine ⟨by simp [h3], fun i c' hi => ?_⟩
  cases i with
  | zero =>
   simp only [List.getElem?_cons_zero, Option.some.injEq] at hi
   subst hi
   split at h1
   ·rename_i d hd
    exact ⟨h, d, rfl, by rw [← nth_eq]; exact hd, h1⟩
   ·exact h1.elim
  | succ i => simpa using h4 i c' (by simpa using hi)
 | [], _ :: _, h => h.elim
 | _ :: _, [], h => h.elim
theorem eqC_base {d c : Ch} (h : eqC d c) : d.base = c.base := by
 unfold eqC at h
 split at h
 ·split at h
  ·simp only [Ch.base, h.1.h.1]
  ·exact h.elim
 ·split at h
  ·simp only [Ch.base, h.1.h.1, (eqCols_ok h.2).1]
  ·exact h.elim
 ·rfl
 ·simp only [Ch.base, h.h.1, h.h.2]
 ·exact h.h
 ·exact h.elim
theorem sub_by {Γ : Ctx} {st st' : St} (σ : List Nat) (k : Nat) (hk : Γ.b0.length = k) (hup : isUp 0 k σ = true) (hkl : Nat.ble k st'.hp.length = true) (hnd : onceG σ st'.hp = true) (hn : st'.n = st.n) (hdf : st.df = []) (hdf' : st'.df = [])
  (hhs : hsT st'.hp.length st'.tm = true) (hhc : hsCL st'.hp.length st'.hp = true) (hcs : eqCs st.hp σ σ st'.hp) (hts : eqTs st.tm σ st'.tm) : Sub Γ st st' := by
 intro a w hd
 obtain ⟨hlen, hat⟩ := eqCs_ok hcs
 have hren : RenOk σ st'.hp.length (bases st'.hp) (bases st.hp) := by
  intro i hi
  obtain ⟨h, d, h1, h2, h3⟩ := hat i st'.hp[i] (by simp [hi])
  have e : nthD σ i = h := by simp [nthD, nth_eq, h1]
  rw [e]
  refine ⟨by simpa using (List.getElem?_eq_some_iff.1 h2).1, ?_⟩
  have := eqC_base h3
  rw [ren_base] at this
  simp [bases, h2, hi, this]
 obtain ⟨S, dd⟩ := hd.h
 refine ⟨⟨by rw [hn]; exact hd.t.size, by rw [hd.t.df, hdf, hdf']; rfl, by rw [hdf']; simp, fun t x hx => ?_⟩, fun i x => ∃ h c, σ[i]? = some h ∧ st'.hp[i]? = some c ∧ c.isGone = false ∧ S h x, dd.fr, ?_, ?_, ?_, ?_, ?_, ?_⟩
 ·
  have key : ∀ {l : List (Nat × SV)}, hsT st'.hp.length l = true → eqTs st.tm σ l → look l t = some x → x.hs st'.hp.length = true ∧ ∃ y, look st.tm t = some y ∧ eqV y (x.ren σ) := by
   intro l
   induction l with
   | nil => intro _ _ h; simp [look] at h
   | cons p l ih =>
    obtain ⟨t', x'⟩ := p
    intro h1 h2 h3
    simp only [hsT] at h1
    split at h1
    ·rename_i hx'
     simp only [look] at h3
     split at h3
     ·rename_i hb
      have := Nat.eq_of_beq_eq_true hb
      subst this
      cases h3
      refine ⟨hx', ?_⟩
      have h2 := h2.1
      split at h2
      ·rename_i y hy; exact ⟨y, hy, h2⟩
      ·exact h2.elim
     ·exact ih h1 h2.2 h3
    ·cases h1
  obtain ⟨h1, y, h2, h3⟩ := key hhs hts hx
  refine ⟨?_, h1⟩
  rw [(hd.t.tm t y h2).1, eqV_ok h3, (den_ren hren x h1).1]
 ·intro i c hi
  obtain ⟨h, d, h1, h2, h3⟩ := hat i c hi
  have hc := dd.ch h d h2
  have hS : ∀ c, st'.hp[i]? = some c → c.isGone = false → (fun x => ∃ h c, σ[i]? = some h ∧ st'.hp[i]? = some c ∧ c.isGone = false ∧ S h x) = S h := by
   intro c hc hng
   funext x; apply propext
   constructor
   ·rintro ⟨h', c', g1, g2, _, g3⟩
    rw [h1] at g1
    cases g1
    exact g3
   ·exact fun hx => ⟨h, c, h1, hc, hng, hx⟩
  have hhci := hsCL_at hhc i c hi
  cases c with
  | box b ty l ex =>
   rw [hS _ hi rfl]
   cases d <;> simp only [Ch.ren, eqC] at h3 <;> first | exact h3.elim | skip
   rename_i b' ty' l' ex'
   split at h3
   ·rename_i e2 e3
    obtain ⟨⟨e4, e1⟩, e5⟩ := h3
    simp only [beq_iff_eq] at e2
    have e4 : b' = b := e4
    subst e4; subst e2
    obtain ⟨a1, a2, a3, a4⟩ := hc
    obtain ⟨r1, r2⟩ := denL_ren hren l (by simpa using (show SV.hsL st'.hp.length l = true from hhci))
    refine ⟨by rw [a1, eqVs_ok e5, r1, (e1 : _ = _)], by simpa using (show SV.hsL st'.hp.length l = true from hhci), by rw [← renL_one σ]; exact e3, a4⟩
   ·exact h3.elim
  | arr ad n sp cs ex =>
   rw [hS _ hi rfl]
   cases d <;> simp only [Ch.ren, eqC] at h3 <;> first | exact h3.elim | skip
   rename_i ad' n' sp' cs' ex'
   split at h3
   ·rename_i e2
    obtain ⟨⟨e4, e6, e7⟩, e5⟩ := h3
    simp only [beq_iff_eq] at e2
    subst e2; subst e4
    obtain ⟨a1, a2⟩ := hc
    obtain ⟨q1, q2⟩ := eqCols_ok e5
    refine ⟨?_, ?_⟩
    ·intro c hcm
     obtain ⟨q, hq, rfl⟩ := List.getElem_of_mem hcm
     have := q2 q (cs'[q]'(by omega)) cs[q] (by simp [q1, hq]) (by simp [hq])
     rw [← this, ← e6]
     exact a1 _ (List.getElem_mem _)
    ·cases ad' with
     | none => exact ⟨by rw [← e6]; exact a2.1, by rw [← e7]; exact a2.2.1, a2.2.2⟩
     | some ad =>
      simp only at a2 ⊢
      rw [← e6, ← e7, ← flat_eqCols e5, ← q1, ← plain_eqCols e5]
      exact a2
   ·exact h3.elim
  | res r =>
   rw [hS _ hi rfl]
   cases d <;> simp only [Ch.ren, eqC] at h3 <;> first | exact h3.elim | skip
   show (r ()).R w (S h)
   rw [← h3.h]
   exact hc
  | gone b n =>
   rintro x ⟨h', c', g1, g2, g3, g4⟩
   rw [hi] at g2
   cases g2
   cases g3
 ·rintro i i' x ⟨h, c, g1, g3, g4, g2⟩ ⟨h', c', g1', g3', g4', g2'⟩
  have := dd.dj h h' x g2 g2'
  subst this
  exact onceG_ok hnd g1 g1' g3 g3' g4 g4'
 ·rintro i x ⟨h, c, _, _, _, g2⟩ hx
  exact dd.own h x g2 hx
 ·rintro i x ⟨h, c, _, _, _, g2⟩
  exact dd.dom h x g2
 ·rintro i x ⟨h, c, _, g1, _, _⟩
  exact (List.getElem?_eq_some_iff.1 g1).1
 ·obtain ⟨bs, hb⟩ := dd.pre
  refine ⟨(bases st'.hp).drop k, ?_⟩
  apply List.ext_getElem?
  intro i
  have hkl := Nat.le_of_ble_eq_true hkl
  by_cases hi : i < k
  ·rw [List.getElem?_append_left (by omega)]
   have h1 := isUp_get hup i hi
   have h2 := (hren i (by omega)).2
   have e : nthD σ i = i := by simp [nthD, nth_eq, h1]
   rw [e, hb, List.getElem?_append_left (by omega)] at h2
   exact h2.symm
  ·rw [List.getElem?_append_right (by omega), List.getElem?_drop, hk]
   congr 1; omega
theorem loopJ {Γ : Ctx} {body : St → KS → Prop} {st : St} {α : Type} (J : α → Prop) (inv : α → St) (μ : α → Nat) (q0 : α) (h0 : J q0) (hs : Sub Γ st (inv q0))
  (hb : ∀ q, J q → body (inv q) (fun st' => ∃ q', J q' ∧ μ q' < μ q ∧ Sub Γ st' (inv q'))) : LoopP Γ body st := ⟨⟨α, J, inv, μ, q0, h0, hs, hb⟩⟩
theorem wr_u8 (n : Int) : 0 ≤ wr .u8 n ∧ wr .u8 n < 256 := by
 simp only [wr, IntKind.wrap, IntKind.bits, IntKind.signed]
 simp
 omega
def nodupB : List Nat → Bool
 | [] => true
 | x :: l => match memN l x with
  | true => false
  | false => nodupB l
theorem nodup_of : ∀ {l : List Nat}, nodupB l = true → l.Nodup
 | [], _ => List.nodup_nil
 | x :: l, h => by
  simp only [nodupB] at h
  split at h
  ·cases h
  ·rename_i hm
   rw [List.nodup_cons]
   exact ⟨fun hx => by (rw [(memN_iff _ _).2 hx] at hm; cases hm), nodup_of h⟩
end Go.Proofs.YtfoffehokhkohaaGreat
