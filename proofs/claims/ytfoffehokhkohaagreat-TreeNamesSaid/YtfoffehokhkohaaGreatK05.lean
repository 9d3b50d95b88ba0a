/- Part 5 of what is proved in the last text (packed by a program of mine). -/
import Derived.Test.YtfoffehokhkohaaGreatK04
set_option linter.all false
namespace Go.Proofs.YtfoffehokhkohaaGreat
open Go
def has (l : Array Bool) (i : Nat) : Prop := l.getD i false = true
theorem has_set {l : Array Bool} {i j : Nat} : has (l.setIfInBounds i true) j ↔ has l j ∨ (i = j ∧ i < l.size) := by
 unfold has
 by_cases h : i = j
 ·subst h
  by_cases h1 : i < l.size
  ·simp [h1]
  ·simp [h1, Array.getElem?_eq_none (Nat.le_of_not_lt h1)]
 ·rw [getD_set_ne false h]; simp [h]
theorem unl_iff {l : Array Bool} {i : Nat} (h : i < l.size) : l.getD i true = false ↔ ¬ has l i := by
 unfold has; simp [h]
section
variable (F : Fence) (n : Nat) (P : Program) (ops : Array Oper) (Q : Exit → Act → World → Prop) (quiet : Nat → Bool)
def Y (o : Oper) (v : Value) (a : Act) (w : World) : Prop :=
 (Region.wanted o (yielded ops a.tmps) = true ∧ (execOp a.eval o).run P w = .ok (.value v) w) ∨ (Region.wanted o (yielded ops a.tmps) = false ∧ v = undef)
inductive Reach : Nat → Nat → Prop
 | one {i j : Nat} {o : Oper} {e : Edge} (h : ops[j]? = some o) (he : e ∈ o.after) (hb : Region.binds .any e = true) (ho : e.on = i) : Reach i j
 | step {i j k : Nat} (h : Reach i j) (h' : Reach j k) : Reach i k
def Pl : Nat → Array Bool → List (Nat × Value) → Act → World → Prop
 | 0, L, _, a, w => Region.ready .any ops L = [] ∧ Q .normal a w
 | f + 1, L, T, a, w =>
  (Region.ready .any ops L = [] ∧ Q .normal a w) ∨
  (∃ i o v, ops[i]? = some o ∧ i ∈ Region.ready .any ops L ∧ quiet i = true ∧ (∀ w, Y P ops o v a w) ∧ Pl f (L.setIfInBounds i true) T (a.put o.dst v) w) ∨
  (∃ i o v, ops[i]? = some o ∧ i ∈ Region.ready .any ops L ∧ quiet i = true ∧ Y P ops o v a w ∧ Pl f (L.setIfInBounds i true) ((i, v) :: T) (a.put o.dst v) w) ∨
  (Region.ready .any ops L ≠ [] ∧ ∀ j ∈ Region.ready .any ops L, wpOpIn F n P ops Q j (fun a' w' =>
   (∀ i v o, (i, v) ∈ T → ops[i]? = some o → (∀ d, o.dst = some d → d < a'.tmps.size → a'.tmps[d]? = some v) → (Region.wanted o (yielded ops a'.tmps) = false → v = undef) →
    (∀ e, has (L.setIfInBounds j true) e → quiet e = false → ¬ Reach ops i e) → Y P ops o v a' w') ∧ Pl f (L.setIfInBounds j true) T a' w') a w)
structure Chk : Prop where
 topo : ∀ (j : Nat) (o : Oper), ops[j]? = some o → ∀ e ∈ o.after, Region.binds .any e = true → e.on < j
 nosel : ∀ (j : Nat) (o : Oper) cs b, ops[j]? = some o → o.op ≠ .select cs b
 nodef : ∀ (j : Nat) (o : Oper) c, ops[j]? = some o → quiet j = true → o.op ≠ .defer c
 wr : ∀ (p j : Nat) (op oj : Oper) (d : Tmp), ops[p]? = some op → ops[j]? = some oj → p ≠ j → quiet p = true → op.dst = some d → (d ∈ oj.looksAt ops ∨ oj.dst = some d) →
  (∃ e ∈ oj.after, Region.binds .any e = true ∧ e.on = p) ∨ ((∃ e ∈ op.after, Region.binds .any e = true ∧ e.on = j) ∧ quiet j = false) ∨ (∃ e, quiet e = false ∧ Reach ops j e ∧ Reach ops e p)
 rd : ∀ (p j : Nat) (op oj : Oper) (d : Tmp), ops[p]? = some op → ops[j]? = some oj → p ≠ j → quiet p = true → oj.dst = some d → d ∈ op.looksAt ops →
  (∃ e ∈ op.after, Region.binds .any e = true ∧ e.on = j) ∨ (∃ e ∈ oj.after, Region.binds .any e = true ∧ e.on = p)
 self : ∀ (p : Nat) (op : Oper) (d : Tmp), ops[p]? = some op → quiet p = true → op.dst = some d → d ∉ op.looksAt ops
def Closed (L : Array Bool) : Prop := ∀ (j : Nat) (o : Oper), has L j → ops[j]? = some o → ∀ e ∈ o.after, Region.binds .any e = true → has L e.on
structure Rel (Lr Lp : Array Bool) (T : List (Nat × Value)) (ar ap : Act) (w : World) : Prop where
 szr : Lr.size = ops.size
 szp : Lp.size = ops.size
 sub : ∀ i, has Lr i → has Lp i
 clr : Closed ops Lr
 clp : Closed ops Lp
 qu : ∀ i, has Lp i → ¬ has Lr i → quiet i = true
 dfs : ar.defers = ap.defers
 tsz : ar.tmps.size = ap.tmps.size
 val : ∀ i, has Lp i → ¬ has Lr i → ∃ o v, ops[i]? = some o ∧ (∀ d, o.dst = some d → d < ap.tmps.size → ap.tmps[d]? = some v) ∧ (((i, v) ∈ T ∧ Y P ops o v ap w) ∨ ∀ w, Y P ops o v ap w)
 oth : ∀ d, (∀ i o, has Lp i → ¬ has Lr i → ops[i]? = some o → o.dst ≠ some d) → ar.tmps[d]? = ap.tmps[d]?
end
section
variable {F : Fence} {n : Nat} {P : Program} {ops : Array Oper} {Q : Exit → Act → World → Prop} {quiet : Nat → Bool}
theorem closed_reach {L : Array Bool} (h : Closed ops L) {i j : Nat} (hr : Reach ops i j) : has L j → has L i := by
 induction hr with
 | one ho he hb hi => intro hj; subst hi; exact h _ _ hj ho _ he hb
 | step _ _ ih1 ih2 => exact fun hk => ih1 (ih2 hk)
theorem closed_set {L : Array Bool} (hs : L.size = ops.size) (h : Closed ops L) {j : Nat} (hj : j ∈ Region.ready .any ops L) : Closed ops (L.setIfInBounds j true) := by
 obtain ⟨_, o, ho, hall⟩ := mem_ready.1 hj
 intro k o' hk hk' e he hb
 rw [has_set] at hk ⊢
 rcases hk with hk | ⟨rfl, _⟩
 ·exact .inl (h k o' hk hk' e he hb)
 ·rw [ho] at hk'
  cases hk'
  exact .inl (hall e he hb)
def Agree (ops : Array Oper) (o : Oper) (a a' : Act) : Prop := ∀ d ∈ o.looksAt ops, a.tmps[d]? = a'.tmps[d]?
theorem Agree.eval {o : Oper} {a a' : Act} (h : Agree ops o a a') : ∀ x ∈ o.op.operands, a.eval x = a'.eval x := by
 intro x hx
 cases x with
 | tmp t =>
  have : t ∈ o.looksAt ops := List.mem_append_left _ (List.mem_filterMap.2 ⟨.tmp t, by simpa using hx, rfl⟩)
  simp only [Act.eval, Array.getD_eq_getD_getElem?, h t this]
 | _ => rfl
theorem Agree.wanted {o : Oper} {a a' : Act} (h : Agree ops o a a') : Region.wanted o (yielded ops a.tmps) = Region.wanted o (yielded ops a'.tmps) := by
 unfold Region.wanted
 cases hg : o.guard with
 | none => rfl
 | some gw =>
  obtain ⟨g, want⟩ := gw
  have hy : yielded ops a.tmps g = yielded ops a'.tmps g := by
   unfold yielded
   cases ht : (ops[g]?).bind (·.dst) with
   | none => rfl
   | some t =>
    have := h t (by simp [Oper.looksAt, hg, ht])
    simp only [Option.bind_some, this]
  simp only [hy]
theorem Y.agree {o : Oper} {v : Value} {a a' : Act} {w : World} (hs : ∀ cs b, o.op ≠ .select cs b) (h : Agree ops o a a') (hy : Y P ops o v a w) : Y P ops o v a' w := by
 unfold Y at *
 rw [← h.wanted, ← execOp_congr o hs h.eval]
 exact hy
theorem Agree.put {o : Oper} {a : Act} {dst : Option Tmp} {v : Value} (h : ∀ d, dst = some d → d ∉ o.looksAt ops) : Agree ops o a (a.put dst v) := by
 intro d hd
 cases dst with
 | none => rfl
 | some e =>
  have : e ≠ d := fun he => h e rfl (he ▸ hd)
  simp [Act.put, Array.getElem?_setIfInBounds_ne this]
theorem put_get (a : Act) (dst : Option Tmp) (v : Value) (d : Nat) : (a.put dst v).tmps[d]? = if dst = some d ∧ d < a.tmps.size then some v else a.tmps[d]? := by
 cases dst with
 | none => simp [Act.put]
 | some e =>
  simp only [Act.put, Array.getElem?_setIfInBounds, Option.some.injEq]
  by_cases h : e = d
  ·subst h
   by_cases h1 : e < a.tmps.size
   ·simp [h1]
   ·simp [h1]
  ·simp [h]
theorem put_size (a : Act) (dst : Option Tmp) (v : Value) : (a.put dst v).tmps.size = a.tmps.size := by cases dst <;> simp [Act.put]
theorem put_dfs (a : Act) (dst : Option Tmp) (v : Value) : (a.put dst v).defers = a.defers := by cases dst <;> rfl
theorem wpOpIn_rel {j : Nat} {oj : Oper} {ar ap : Act} {w : World} {K K' : Act → World → Prop} (hj : ops[j]? = some oj) (hsel : ∀ cs b, oj.op ≠ .select cs b) (hag : Agree ops oj ap ar) (hF : ∀ f, F.fn f)
  (hK : ∀ (f : Act → Act) v w', (∀ a, (f a).tmps = a.tmps) → (ar.defers = ap.defers → (f ar).defers = (f ap).defers) → K ((f ap).put oj.dst v) w' → K' ((f ar).put oj.dst v) w')
  (hQ : ∀ c a a' w, Q (.panic c) a w → Q (.panic c) a' w) (h : wpOpIn F n P ops Q j K ap w) : wpOpIn F n P ops Q j K' ar w := by
 have hid : ∀ v w', K (ap.put oj.dst v) w' → K' (ar.put oj.dst v) w' := fun v w' hk => hK id v w' (fun _ => rfl) (fun e => e) hk
 unfold wpOpIn at *
 simp only [hj] at *
 rw [hag.wanted] at h
 split
 ·rename_i hw
  simp only [hw, if_true] at h
  unfold Oper.wpIn at *
  refine ⟨fun f _ => hF f, ?_⟩
  have h := h.2
  have hsem : oj.semAt F.round ap.eval = oj.semAt F.round ar.eval := by
   have he := execOp_congr oj hsel hag.eval
   unfold Oper.semAt
   cases F.round with
   | none => exact he
   | some l =>
    cases ho : oj.op <;> first | exact he | skip
    rename_i c
    simp only
    rw [resolve_congr (ρ := ap.eval) (ρ' := ar.eval) c oj.type (fun x hx => hag.eval x (by rw [ho]; simpa [Op.operands] using hx))]
  rw [hsem] at h
  generalize (oj.semAt F.round ar.eval).run P w = r at *
  cases r with
  | ok x w' =>
   cases x <;> simp only [Oper.uponIn] at h ⊢
   case value u => exact hid _ _ h
   case skip => exact hid _ _ h
   case defer d => exact hK (fun a => { a with defers := d :: a.defers }) undef w' (fun _ => rfl) (fun e => by simp [e]) h
   case enter f args =>
    refine ⟨h.1, CallsIn.mono h.2 fun e w'' he => ?_⟩
    cases e with
    | returned u => exact hid _ _ he
    | panicked c => exact hQ _ _ _ _ he
    | outgrown => exact he
   case row row args => exact ⟨h.1, RowsIn.mono h.2 fun u w'' he => hid _ _ he⟩
   case round l f tmps assign body =>
    refine ⟨h.1, RoundIn.mono h.2 fun e w'' he => ?_⟩
    cases e with
    | returned u => exact hid _ _ he
    | panicked c => exact hQ _ _ _ _ he
    | outgrown => exact he
  | halt x w' =>
   cases x <;> simp only [Oper.uponIn] at h ⊢
   case panic u => exact hQ _ _ _ _ h
 ·rename_i hw
  simp only [hw] at h
  exact ⟨fun f _ => hF f, hid _ _ h.2⟩
def cnt (L : Array Bool) : Nat := (L.toList.filter (!·)).length
theorem cnt_list : ∀ (l : List Bool) (i : Nat), l[i]? = some false → ((l.set i true).filter (!·)).length + 1 = (l.filter (!·)).length
 | [], _, h => by simp at h
 | b :: l, 0, h => by
  simp only [List.getElem?_cons_zero, Option.some.injEq] at h
  subst h
  simp
 | b :: l, i + 1, h => by
  have := cnt_list l i (by simpa using h)
  cases b <;> simp at this ⊢ <;> omega
theorem cnt_set {L : Array Bool} {i : Nat} (hi : i < L.size) (h : ¬ has L i) : cnt (L.setIfInBounds i true) + 1 = cnt L := by
 unfold cnt
 have : L.toList[i]? = some false := by
  unfold has at h
  simp [hi] at h
  simp [hi, h]
 have := cnt_list L.toList i this
 simpa using this
theorem cnt_zero {L : Array Bool} (h : cnt L = 0) (i : Nat) (hi : i < L.size) : has L i := by
 unfold cnt at h
 have h1 := List.eq_nil_of_length_eq_zero h
 rw [List.filter_eq_nil_iff] at h1
 have := h1 L[i] (by simp)
 unfold has
 simp [hi]
 simpa using this
theorem Rel.same {Lr Lp : Array Bool} {T : List (Nat × Value)} {ar ap : Act} {w : World} (r : Rel P ops quiet Lr Lp T ar ap w) (h : ∀ i, has Lp i → has Lr i) : ar = ap := by
 obtain ⟨t1, d1⟩ := ar
 obtain ⟨t2, d2⟩ := ap
 have h1 : t1 = t2 := by
  apply Array.ext_getElem?
  intro i
  exact r.oth i fun k o hk hn => absurd (h k hk) hn
 have h2 : d1 = d2 := r.dfs
 subst h1; subst h2; rfl
theorem ready_not {L : Array Bool} (hs : L.size = ops.size) {j : Nat} (hj : j ∈ Region.ready .any ops L) : ¬ has L j ∧ j < ops.size ∧ ∃ o, ops[j]? = some o ∧ ∀ e ∈ o.after, Region.binds .any e = true → has L e.on := by
 obtain ⟨h1, o, ho, h2⟩ := mem_ready.1 hj
 have hjl := (Array.getElem?_eq_some_iff.1 ho).1
 exact ⟨(unl_iff (by rw [hs]; exact hjl)).1 h1, hjl, o, ho, h2⟩
theorem ready_of {L : Array Bool} (hs : L.size = ops.size) {j : Nat} {o : Oper} (ho : ops[j]? = some o) (hn : ¬ has L j) (h : ∀ e ∈ o.after, Region.binds .any e = true → has L e.on) : j ∈ Region.ready .any ops L :=
 mem_ready.2 ⟨(unl_iff (by rw [hs]; exact (Array.getElem?_eq_some_iff.1 ho).1)).2 hn, o, ho, h⟩
theorem ready_reach {L : Array Bool} (hs : L.size = ops.size) (hcl : Closed ops L) {i : Nat} (hi : i ∈ Region.ready .any ops L) {e : Nat} (h : Reach ops e i) : has L e := by
 obtain ⟨_, _, o, ho, hdep⟩ := ready_not hs hi
 have key : ∀ {a b : Nat}, Reach ops a b → b = i → has L a := by
  intro a b hr
  induction hr with
  | one ho' he hb hon =>
   intro hbi
   subst hbi
   rw [ho] at ho'
   cases ho'
   rw [← hon]
   exact hdep _ he hb
  | step h1 h2 ih1 ih2 => intro hbi; exact closed_reach hcl h1 (ih2 hbi)
 exact key h rfl
theorem has_lt {L : Array Bool} {i : Nat} (h : has L i) : i < L.size := by
 rcases Nat.lt_or_ge i L.size with h1 | h1
 ·exact h1
 ·unfold has at h; simp [Array.getElem?_eq_none h1] at h
theorem Y.wpOp {i : Nat} {o : Oper} {v : Value} {a : Act} {w : World} {K : Act → World → Prop} (hF : ∀ f, F.fn f) (ho : ops[i]? = some o) (hd : ∀ c, o.op ≠ .defer c) (hy : Y P ops o v a w) (h : K (a.put o.dst v) w) : wpOpIn F n P ops Q i K a w := by
 unfold wpOpIn
 simp only [ho]
 rcases hy with ⟨h1, h2⟩ | ⟨h1, rfl⟩
 ·rw [if_pos h1]
  refine ⟨fun f _ => hF f, ?_⟩
  rw [Oper.semAt_eq _ _ _ hd, h2]
  exact h
 ·rw [if_neg (by simp [h1])]
  exact ⟨fun f _ => hF f, h⟩
theorem Rel.through {Lr Lp : Array Bool} {T : List (Nat × Value)} {ar ap : Act} {w : World} (r : Rel P ops quiet Lr Lp T ar ap w) {j e : Nat} (hq : quiet e = false) (hj : Reach ops j e) (he : has Lp e) : has Lr j := by
 have : has Lr e := Classical.byContradiction fun hn => by rw [r.qu e he hn] at hq; cases hq
 exact closed_reach r.clr hj this
theorem Rel.agree (hc : Chk ops quiet) {Lr Lp : Array Bool} {T : List (Nat × Value)} {ar ap : Act} {w : World} (r : Rel P ops quiet Lr Lp T ar ap w) {j : Nat} {oj : Oper} (hj : ops[j]? = some oj) (hn : ¬ has Lr j)
  (hdep : ∀ e ∈ oj.after, Region.binds .any e = true → has Lr e.on) : Agree ops oj ap ar := by
 intro d hd
 refine (r.oth d fun i o hp hnr ho hdst => ?_).symm
 have hqi := r.qu i hp hnr
 by_cases hij : i = j
 ·subst hij
  rw [hj] at ho
  cases ho
  exact hc.self i oj d hj hqi hdst hd
 ·rcases hc.wr i j o oj d ho hj hij hqi hdst (.inl hd) with ⟨e, he, hb, ho'⟩ | ⟨⟨e, he, hb, ho'⟩, hqj⟩ | ⟨e, hqe, hje, hei⟩
  ·have := hdep e he hb
   rw [ho'] at this
   exact hnr this
  ·have := r.clp i o hp ho e he hb
   rw [ho'] at this
   rw [r.qu j this hn] at hqj
   cases hqj
  ·exact hn (r.through hqe hje (closed_reach r.clp hei hp))
theorem Rel.exec (hc : Chk ops quiet) {Lr Lp : Array Bool} {T : List (Nat × Value)} {ar ap : Act} {w : World} (r : Rel P ops quiet Lr Lp T ar ap w) {j : Nat} (hj : j ∈ Region.ready .any ops Lr) (hp : has Lp j) :
  ∃ o v, ops[j]? = some o ∧ Y P ops o v ar w ∧ (∀ c, o.op ≠ .defer c) ∧ Rel P ops quiet (Lr.setIfInBounds j true) Lp T (ar.put o.dst v) ap w := by
 obtain ⟨hn, hjl, o, ho, hdep⟩ := ready_not r.szr hj
 obtain ⟨o', v, ho', hv, hyv⟩ := r.val j hp hn
 rw [ho] at ho'
 cases ho'
 have hag := r.agree hc ho hn hdep
 have hy : Y P ops o v ap w := by
  rcases hyv with ⟨_, h⟩ | h
  ·exact h
  ·exact h w
 refine ⟨o, v, ho, hy.agree (fun cs b => hc.nosel j o cs b ho) hag, fun c => hc.nodef j o c ho (r.qu j hp hn), ?_⟩
 refine ⟨by simpa using r.szr, r.szp, fun i hi => ?_, closed_set r.szr r.clr hj, r.clp, fun i hi hni => ?_, by rw [put_dfs]; exact r.dfs, by rw [put_size]; exact r.tsz, fun i hi hni => ?_, fun d hd => ?_⟩
 ·rcases has_set.1 hi with h | ⟨h, _⟩
  ·exact r.sub i h
  ·exact h ▸ hp
 ·exact r.qu i hi (fun h => hni (has_set.2 (.inl h)))
 ·exact r.val i hi (fun h => hni (has_set.2 (.inl h)))
 ·rw [put_get]
  by_cases hdd : o.dst = some d
  ·by_cases hl : d < ar.tmps.size
   ·rw [if_pos ⟨hdd, hl⟩, hv d hdd (by rw [← r.tsz]; exact hl)]
   ·rw [if_neg (fun h => hl h.2), Array.getElem?_eq_none (Nat.le_of_not_lt hl), Array.getElem?_eq_none (r.tsz ▸ Nat.le_of_not_lt hl)]
  ·rw [if_neg (by simp [hdd])]
   refine r.oth d fun k ok hk hnk hok => ?_
   by_cases hkj : k = j
   ·subst hkj
    rw [ho] at hok
    cases hok
    exact hdd
   ·exact hd k ok hk (fun h => by
     rcases has_set.1 h with h | ⟨h, _⟩
     ·exact hnk h
     ·exact hkj h.symm) hok
theorem Rel.take (hc : Chk ops quiet) {Lr Lp : Array Bool} {T T' : List (Nat × Value)} {ar ap : Act} {w : World} {i : Nat} {o : Oper} {v : Value} (r : Rel P ops quiet Lr Lp T ar ap w) (ho : ops[i]? = some o) (hi : i ∈ Region.ready .any ops Lp) (hq : quiet i = true)
  (hy : ((i, v) ∈ T' ∧ Y P ops o v ap w) ∨ ∀ w, Y P ops o v ap w) (hT : ∀ x, x ∈ T → x ∈ T') : Rel P ops quiet Lr (Lp.setIfInBounds i true) T' ar (ap.put o.dst v) w := by
 obtain ⟨hn, hil, _, _, _⟩ := ready_not r.szp hi
 have hnr : ¬ has Lr i := fun h => hn (r.sub i h)
 have hap : ∀ p op, has Lp p → ¬ has Lr p → ops[p]? = some op → ∀ d, o.dst = some d → d ∉ op.looksAt ops ∧ op.dst ≠ some d := by
  intro p op hp hnp hop d hd
  have hip : i ≠ p := fun e => hn (e ▸ hp)
  have key : ¬ (d ∈ op.looksAt ops ∨ op.dst = some d) := fun hcon => by
   rcases hc.wr i p o op d ho hop hip hq hd hcon with ⟨e, he, hb, ho'⟩ | ⟨_, hqp⟩ | ⟨e, hqe, hje, hei⟩
   ·have := r.clp p op hp hop e he hb
    rw [ho'] at this
    exact hn this
   ·rw [r.qu p hp hnp] at hqp; cases hqp
   ·exact hnp (r.through hqe hje (ready_reach r.szp r.clp hi hei))
  exact ⟨fun h => key (.inl h), fun h => key (.inr h)⟩
 have keepY : ∀ p op v', has Lp p → ¬ has Lr p → ops[p]? = some op → ∀ w, Y P ops op v' ap w → Y P ops op v' (ap.put o.dst v) w := fun p op v' hp hnp hop w hy' =>
  hy'.agree (fun cs b => hc.nosel p op cs b hop) (Agree.put fun d hd => (hap p op hp hnp hop d hd).1)
 have self : ∀ w, Y P ops o v ap w → Y P ops o v (ap.put o.dst v) w := fun w hy' => hy'.agree (fun cs b => hc.nosel i o cs b ho) (Agree.put fun d hd => hc.self i o d ho hq hd)
 refine ⟨r.szr, by simpa using r.szp, fun k hk => has_set.2 (.inl (r.sub k hk)), r.clr, closed_set r.szp r.clp hi, fun k hk hnk => ?_, by rw [put_dfs]; exact r.dfs, by rw [put_size]; exact r.tsz, fun k hk hnk => ?_, fun d hd => ?_⟩
 ·rcases has_set.1 hk with h | ⟨h, _⟩
  ·exact r.qu k h hnk
  ·exact h ▸ hq
 ·by_cases hki : k = i
  ·subst hki
   refine ⟨o, v, ho, fun d hd hl => ?_, ?_⟩
   ·rw [put_size] at hl
    rw [put_get, if_pos ⟨hd, hl⟩]
   ·rcases hy with ⟨h1, h2⟩ | h
    ·exact .inl ⟨h1, self w h2⟩
    ·exact .inr fun w => self w (h w)
  ·have hkp : has Lp k := by
    rcases has_set.1 hk with h | ⟨h, _⟩
    ·exact h
    ·exact absurd h.symm hki
   obtain ⟨ok, vk, hok, hvk, hyk⟩ := r.val k hkp hnk
   refine ⟨ok, vk, hok, fun d hd hl => ?_, ?_⟩
   ·rw [put_size] at hl
    rw [put_get, if_neg (fun h => (hap k ok hkp hnk hok d h.1).2 hd)]
    exact hvk d hd hl
   ·rcases hyk with ⟨h1, h2⟩ | h
    ·exact .inl ⟨hT _ h1, keepY k ok vk hkp hnk hok w h2⟩
    ·exact .inr fun w => keepY k ok vk hkp hnk hok w (h w)
 ·rw [put_get, if_neg (fun h => hd i o (has_set.2 (.inr ⟨rfl, by rw [r.szp]; exact hil⟩)) hnr ho h.1)]
  exact r.oth d fun k ok hk hnk hok => hd k ok (has_set.2 (.inl hk)) hnk hok
theorem Rel.step (hc : Chk ops quiet) {Lr Lp : Array Bool} {T : List (Nat × Value)} {ar ap : Act} {w w' : World} (r : Rel P ops quiet Lr Lp T ar ap w) {j : Nat} {oj : Oper} (hoj : ops[j]? = some oj) (hj : j ∈ Region.ready .any ops Lr) (hnp : ¬ has Lp j)
  (f : Act → Act) (v : Value) (hf : ∀ a, (f a).tmps = a.tmps) (hfd : ar.defers = ap.defers → (f ar).defers = (f ap).defers)
  (hT : ∀ i v' o, (i, v') ∈ T → ops[i]? = some o → (∀ d, o.dst = some d → d < ((f ap).put oj.dst v).tmps.size → ((f ap).put oj.dst v).tmps[d]? = some v') → (Region.wanted o (yielded ops ((f ap).put oj.dst v).tmps) = false → v' = undef) → (∀ e, has (Lp.setIfInBounds j true) e → quiet e = false → ¬ Reach ops i e) → Y P ops o v' ((f ap).put oj.dst v) w') :
  Rel P ops quiet (Lr.setIfInBounds j true) (Lp.setIfInBounds j true) T ((f ar).put oj.dst v) ((f ap).put oj.dst v) w' := by
 obtain ⟨hn, hjl, o, ho, hdep⟩ := ready_not r.szr hj
 rw [hoj] at ho
 cases ho
 have hjp : j ∈ Region.ready .any ops Lp := ready_of r.szp hoj hnp (fun e he hb => r.sub _ (hdep e he hb))
 have hclr' := closed_set r.szr r.clr hj
 have hap : ∀ p op, has Lp p → ¬ has Lr p → ops[p]? = some op → ∀ d, oj.dst = some d → d ∉ op.looksAt ops ∧ op.dst ≠ some d := by
  intro p op hp hnr hop d hd
  have hpj : p ≠ j := fun e => hnp (e ▸ hp)
  have hqp := r.qu p hp hnr
  refine ⟨fun h => ?_, fun h => ?_⟩
  ·rcases hc.rd p j op oj d hop hoj hpj hqp hd h with ⟨e, he, hb, ho'⟩ | ⟨e, he, hb, ho'⟩
   ·have := r.clp p op hp hop e he hb
    rw [ho'] at this
    exact hnp this
   ·have := hdep e he hb
    rw [ho'] at this
    exact hnr this
  ·rcases hc.wr p j op oj d hop hoj hpj hqp h (.inr hd) with ⟨e, he, hb, ho'⟩ | ⟨⟨e, he, hb, ho'⟩, _⟩ | ⟨e, hqe, hje, hei⟩
   ·have := hdep e he hb
    rw [ho'] at this
    exact hnr this
   ·have := r.clp p op hp hop e he hb
    rw [ho'] at this
    exact hnp this
   ·exact hn (r.through hqe hje (closed_reach r.clp hei hp))
 have hpend : ∀ i, has (Lp.setIfInBounds j true) i → ¬ has (Lr.setIfInBounds j true) i → has Lp i ∧ ¬ has Lr i := by
  intro i hi hni
  have hij : i ≠ j := fun e => hni (has_set.2 (.inr ⟨e.symm, by rw [r.szr]; exact hjl⟩))
  refine ⟨?_, fun h => hni (has_set.2 (.inl h))⟩
  rcases has_set.1 hi with h | ⟨h, _⟩
  ·exact h
  ·exact absurd h.symm hij
 have hagf : ∀ p op, has Lp p → ¬ has Lr p → ops[p]? = some op → Agree ops op ap ((f ap).put oj.dst v) := by
  intro p op hp hnr hop d hd
  have h1 := Agree.put (ops := ops) (o := op) (a := f ap) (dst := oj.dst) (v := v) (fun d hd => (hap p op hp hnr hop d hd).1) d hd
  rw [← h1, hf]
 refine ⟨by simpa using r.szr, by simpa using r.szp, fun i hi => ?_, hclr', closed_set r.szp r.clp hjp, fun i hi hni => ?_, by rw [put_dfs, put_dfs]; exact hfd r.dfs, by rw [put_size, put_size, hf, hf]; exact r.tsz, fun i hi hni => ?_, fun d hd => ?_⟩
 ·rcases has_set.1 hi with h | ⟨h, h2⟩
  ·exact has_set.2 (.inl (r.sub i h))
  ·exact has_set.2 (.inr ⟨h, by rw [r.szp, ← r.szr]; exact h2⟩)
 ·obtain ⟨h1, h2⟩ := hpend i hi hni
  exact r.qu i h1 h2
 ·obtain ⟨h1, h2⟩ := hpend i hi hni
  obtain ⟨o, vi, ho, hv, hy⟩ := r.val i h1 h2
  have hv' : ∀ d, o.dst = some d → d < ((f ap).put oj.dst v).tmps.size → ((f ap).put oj.dst v).tmps[d]? = some vi := fun d hd hl => by
   rw [put_size, hf] at hl
   rw [put_get, if_neg (fun h => (hap i o h1 h2 ho d h.1).2 hd), hf]
   exact hv d hd hl
  refine ⟨o, vi, ho, hv', ?_⟩
  ·rcases hy with ⟨hm, hy0⟩ | hy
   ·refine .inl ⟨hm, hT i vi o hm ho hv' (fun hwf => ?_) fun e he hqe hr => ?_⟩
    ·rcases hy0 with ⟨hw1, _⟩ | ⟨_, hu⟩
     ·rw [(hagf i o h1 h2 ho).wanted, hwf] at hw1; cases hw1
     ·exact hu
    have her : has (Lr.setIfInBounds j true) e := by
     rcases has_set.1 he with h | ⟨h, h3⟩
     ·by_cases hre : has Lr e
      ·exact has_set.2 (.inl hre)
      ·rw [r.qu e h hre] at hqe; cases hqe
     ·exact has_set.2 (.inr ⟨h, by rw [r.szr, ← r.szp]; exact h3⟩)
    exact hni (closed_reach hclr' hr her)
   ·exact .inr fun w => (hy w).agree (fun cs b => hc.nosel i o cs b ho) (hagf i o h1 h2 ho)
 ·rw [put_get, put_get, hf, hf, r.tsz]
  split
  ·rfl
  ·refine r.oth d fun i o hp hnr ho => hd i o (has_set.2 (.inl hp)) (fun h => ?_) ho
   rcases has_set.1 h with h | ⟨h, _⟩
   ·exact hnr h
   ·exact hnp (h ▸ hp)
theorem pl_sound (hc : Chk ops quiet) (hF : ∀ f, F.fn f) (hQ : ∀ c a a' w, Q (.panic c) a w → Q (.panic c) a' w) :
  ∀ (fr f : Nat) (Lr Lp : Array Bool) (T : List (Nat × Value)) (ar ap : Act) (w : World), cnt Lr ≤ fr → Rel P ops quiet Lr Lp T ar ap w → Pl F n P ops Q quiet f Lp T ap w → wpAnyIn F n P .any ops Q fr Lr ar w := by
 intro fr
 induction fr with
 | zero =>
  intro f Lr Lp T ar ap w hcnt r hp
  have hall : ∀ i, i < ops.size → has Lr i := fun i hi => cnt_zero (by omega) i (by rw [r.szr]; exact hi)
  have hrr : Region.ready .any ops Lr = [] := by
   apply List.eq_nil_iff_forall_not_mem.2
   intro j hj
   obtain ⟨h1, hjl, _⟩ := ready_not r.szr hj
   exact h1 (hall j hjl)
  have hrp : Region.ready .any ops Lp = [] := by
   apply List.eq_nil_iff_forall_not_mem.2
   intro j hj
   obtain ⟨h1, hjl, _⟩ := ready_not r.szp hj
   exact h1 (r.sub j (hall j hjl))
  have hsame := r.same (fun i hi => hall i (by rw [← r.szp]; exact has_lt hi))
  refine ⟨hrr, ?_⟩
  rw [hsame]
  cases f with
  | zero => exact hp.2
  | succ f =>
   rcases hp with h | ⟨i, _, _, _, h, _⟩ | ⟨i, _, _, _, h, _⟩ | ⟨h, _⟩
   ·exact h.2
   ·rw [hrp] at h; cases h
   ·rw [hrp] at h; cases h
   ·exact absurd hrp h
 | succ fr ihr =>
  have nothing : ∀ {Lr Lp : Array Bool} {T : List (Nat × Value)} {ar ap : Act} {w : World}, Rel P ops quiet Lr Lp T ar ap w → Region.ready .any ops Lr = [] → ∀ i, has Lp i → has Lr i := by
   intro Lr Lp T ar ap w r h0 i
   induction i using Nat.strongRecOn with
   | ind i ih =>
    intro hi
    refine Classical.byContradiction fun hn => ?_
    obtain ⟨o, _, ho, _⟩ := r.val i hi hn
    have : i ∈ Region.ready .any ops Lr := ready_of r.szr ho hn (fun e he hb => ih e.on (hc.topo i o ho e he hb) (r.clp i o hi ho e he hb))
    rw [h0] at this
    cases this
  have runs : ∀ {f : Nat} {Lr Lp : Array Bool} {T : List (Nat × Value)} {ar ap : Act} {w : World} {j : Nat}, cnt Lr ≤ fr + 1 → Rel P ops quiet Lr Lp T ar ap w → Pl F n P ops Q quiet f Lp T ap w → j ∈ Region.ready .any ops Lr → has Lp j →
    wpOpIn F n P ops Q j (wpAnyIn F n P .any ops Q fr (Lr.setIfInBounds j true)) ar w := by
   intro f Lr Lp T ar ap w j hcnt r hp hj hpj
   obtain ⟨o, v, ho, hy, hd, r'⟩ := r.exec hc hj hpj
   obtain ⟨hn, hjl, _⟩ := ready_not r.szr hj
   have := cnt_set (L := Lr) (by rw [r.szr]; exact hjl) hn
   exact hy.wpOp hF ho hd (ihr f _ Lp T _ ap w (by omega) r' hp)
  have fin : ∀ {f : Nat} {Lr Lp : Array Bool} {T : List (Nat × Value)} {ar ap : Act} {w : World}, cnt Lr ≤ fr + 1 → Rel P ops quiet Lr Lp T ar ap w → Pl F n P ops Q quiet f Lp T ap w → Region.ready .any ops Lp = [] → Q .normal ap w → wpAnyIn F n P .any ops Q (fr + 1) Lr ar w := by
   intro f Lr Lp T ar ap w hcnt r hp h1 h2
   refine ⟨fun h0 => by rw [r.same (nothing r h0)]; exact h2, fun j hj => ?_⟩
   by_cases hpj : has Lp j
   ·exact runs hcnt r hp hj hpj
   ·obtain ⟨_, _, o, ho, hdep⟩ := ready_not r.szr hj
    have := ready_of r.szp ho hpj (fun e he hb => r.sub _ (hdep e he hb))
    rw [h1] at this
    cases this
  intro f
  induction f with
  | zero =>
   intro Lr Lp T ar ap w hcnt r hp
   exact fin (f := 0) hcnt r hp hp.1 hp.2
  | succ f ihf =>
   intro Lr Lp T ar ap w hcnt r hp
   have hp0 := hp
   rcases hp with h | ⟨i, o, v, ho, hi, hq, hy, hp⟩ | ⟨i, o, v, ho, hi, hq, hy, hp⟩ | ⟨hne, hp⟩
   ·exact fin hcnt r hp0 h.1 h.2
   ·exact ihf Lr _ T ar _ w hcnt (r.take hc ho hi hq (.inr hy) (fun _ h => h)) hp
   ·exact ihf Lr _ _ ar _ w hcnt (r.take (T' := (i, v) :: T) hc ho hi hq (.inl ⟨List.mem_cons_self, hy⟩) (fun x hx => List.mem_cons_of_mem _ hx)) hp
   ·refine ⟨fun h0 => ?_, fun j hj => ?_⟩
    ·exfalso
     apply hne
     apply List.eq_nil_iff_forall_not_mem.2
     intro j hj
     obtain ⟨hn, hjl, o, ho, hdep⟩ := ready_not r.szp hj
     have hno := nothing r h0
     have := ready_of r.szr ho (fun h => hn (r.sub j h)) (fun e he hb => hno _ (hdep e he hb))
     rw [h0] at this
     cases this
    ·by_cases hpj : has Lp j
     ·exact runs hcnt r hp0 hj hpj
     ·obtain ⟨hn, hjl, o, ho, hdep⟩ := ready_not r.szr hj
      have hjp := ready_of r.szp ho hpj (fun e he hb => r.sub _ (hdep e he hb))
      have hcs := cnt_set (L := Lr) (by rw [r.szr]; exact hjl) hn
      refine wpOpIn_rel ho (fun cs b => hc.nosel j o cs b ho) (r.agree hc ho hn hdep) hF (fun g v w' hg hgd hk => ?_) hQ (hp j hjp)
      exact ihr f _ _ T _ _ w' (by omega) (r.step hc ho hj hpj g v hg hgd hk.1) hk.2
theorem rel_start (w : World) (a : Act) : Rel P ops quiet (Array.replicate ops.size false) (Array.replicate ops.size false) [] a a w := by
 have hno : ∀ i, ¬ has (Array.replicate ops.size false) i := by
  intro i h
  unfold has at h
  by_cases hi : i < ops.size <;> simp [hi, Array.getElem?_replicate] at h
 exact ⟨by simp, by simp, fun _ h => h, fun j _ h => absurd h (hno j), fun j _ h => absurd h (hno j), fun i h => absurd h (hno i), rfl, rfl, fun i h => absurd h (hno i), fun _ _ => rfl⟩
theorem wpIn_region_plan {id : Nat} {a : Act} {w : World} {f : Nat} (hm : P.follows .mixedOrders = true) (hc : Chk ops quiet) (hF : ∀ f, F.fn f) (hQ : ∀ c a a' w, Q (.panic c) a w → Q (.panic c) a' w)
  (h : Pl F n P ops Q quiet f (Array.replicate ops.size false) [] a w.drew) : (Code.region id ops true).wpIn F n P Q a w := by
 refine wpIn_region_any hm (pl_sound hc hF hQ ops.size f _ _ [] a a w.drew ?_ (rel_start _ a) h)
 have : cnt (Array.replicate ops.size false) = ops.size := by simp [cnt]
 omega
end
end Go.Proofs.YtfoffehokhkohaaGreat
namespace Go.Proofs.YtfoffehokhkohaaGreat
open Go
def tinfo (P : Program) (t : Nat) : Option (Nat × Nat × List Value) :=
 match P.info? t with
 | some i => match i.zero with
  | some v => some (i.size, i.bytes, v.cells.toList)
  | none => none
 | none => none
theorem tinfo_ok {P : Program} {t s b : Nat} {z : List Value} (h : tinfo P t = some (s, b, z)) : TI P t s b z := by
 unfold tinfo at h
 split at h
 ·rename_i i hi
  split at h
  ·rename_i v hv
   simp only [Option.some.injEq, Prod.mk.injEq] at h
   exact ⟨i, v, hi, h.1, h.2.1, hv, h.2.2⟩
  ·cases h
 ·cases h
def ekOf (P : Program) (t : Nat) : EqK :=
 match P.underlying t with
 | some .bool => .bool
 | some (.pointer _) => .ptr
 | some (.slice _) => .slice
 | some (.func _ _ _) => .func
 | some (.struct _) => match flatN P 50 t, P.eqGuardType P.depth t with
  | some ks, false => .flat ks
  | _, _ => .no
 | _ => .no
theorem ekOf_ok (P : Program) (t : Nat) : EkOk P t (ekOf P t) := by
 unfold ekOf
 split
 ·assumption
 ·rename_i e h; exact ⟨e, h⟩
 ·rename_i e h; exact ⟨e, h⟩
 ·rename_i a b c h; exact ⟨a, b, c, h⟩
 ·rename_i fs h
  split
  ·rename_i ks h1 h2; exact ⟨⟨50, by omega, h1⟩, ⟨fs, h⟩, h2⟩
  ·trivial
 ·trivial
def copAlloc (P : Program) (t : Nat) : Option SO :=
 match tinfo P t with
 | some (s, _, z) => match P.underlying t with
  | some (.array _ _) => match z with
   | v :: _ => match z.all (isZ (ctOf v)), Nat.beq s z.length with
    | true, true => some (.allocA t s [ctOf v])
    | _, _ => some (.alloc t (svOfs z))
   | [] => some (.alloc t (svOfs z))
  | _ => some (.alloc t (svOfs z))
 | none => none
def copLoad (P : Program) (t : Nat) (x : Operand) : Option SO :=
 match P.underlying t with
 | some (.struct _) => match tinfo P t with | some (s, _, _) => some (.loadN s x) | none => none
 | some (.array _ _) => match tinfo P t with | some (s, _, _) => some (.loadA s x) | none => none
 | some _ => some (.load1 x)
 | none => none
def copStore (P : Program) (t : Nat) (x v : Operand) : Option SO :=
 match P.underlying t with
 | some (.struct _) => match tinfo P t with | some (s, _, _) => some (.storeN s x v) | none => none
 | some (.array _ _) => match tinfo P t with | some (s, _, _) => some (.storeA s x v) | none => none
 | some _ => match tinfo P t with | some (1, _, _) => some (.store1 x v) | _ => none
 | none => none
def copConv (P : Program) (src dst : Nat) (x : Operand) : Option SO :=
 match P.underlying src, P.underlying dst with
 | some _, some (.int k) => some (.conv k x)
 | some .string, some (.slice e) => match P.underlying e with | some (.int .u8) => some (.s2b e x) | _ => none
 | some (.slice e), some .string => match P.underlying e with | some (.int .u8) => some (.b2s x) | _ => none
 | _, _ => none
def copMkslice (P : Program) (t : Nat) (l c : Operand) : Option SO :=
 match P.underlying t with
 | some (.slice e) => match tinfo P e with
  | some (s, b, z) => match Nat.beq s z.length, z.all Value.oneCell' with
   | true, true => some (.mkslice e b (ctsOf z) l c)
   | _, _ => none
  | none => none
 | _ => none
def copSlice (P : Program) (t : Nat) (x : Operand) (lo hi mx : Option Operand) : Option SO :=
 match P.underlying t with
 | some .string => match mx with | none => some (.sliceStr x lo hi) | some _ => none
 | some (.slice e) => match tinfo P e with | some (s, _, _) => some (.slice s x lo hi mx) | none => none
 | some (.array n e) => match tinfo P e with | some (s, _, _) => some (.sliceA n s x lo hi mx) | none => none
 | _ => none
def fieldOf (P : Program) (t i : Nat) : Option Field :=
 match P.underlying t with
 | some (.struct fs) => fs[i]?
 | _ => none
theorem fieldOf_ok {P : Program} {t i : Nat} {f : Field} (h : fieldOf P t i = some f) : ∃ fs, P.underlying t = some (.struct fs) ∧ fs[i]? = some f := by
 unfold fieldOf at h
 split at h
 ·rename_i fs hu; exact ⟨fs, hu, h⟩
 ·cases h
def copFaddr (P : Program) (t : Nat) (x : Operand) (i : Nat) : Option SO :=
 match fieldOf P t i with
 | some f => match tinfo P f.type with | some (_ + 1, _, _) => some (.faddr f.offset x) | _ => none
 | none => none
def copField (P : Program) (t : Nat) (x : Operand) (i : Nat) : Option SO :=
 match fieldOf P t i with
 | some f => match P.underlying f.type, tinfo P f.type with
  | some d, some (s, _, _) => match notAgg d with | true => some (.fld f.offset none x) | false => some (.fld f.offset (some s) x)
  | _, _ => none
 | none => none
def copIaddr (P : Program) (t : Nat) (x i : Operand) : Option SO :=
 match P.underlying t with
 | some (.slice e) => match tinfo P e with | some (s, _, _) => some (.iaddr s x i) | none => none
 | some (.array n e) => match tinfo P e with | some (s, _, _) => some (.iaddrA n s x i) | none => none
 | _ => none
def copIndex (P : Program) (t : Nat) (x i : Operand) : Option SO :=
 match P.underlying t with
 | some .string => some (.idxStr x i)
 | _ => none
def copPlaces (places : List (Nat × Nat)) : List (Nat × Operand) → Option (List ((Nat × Nat) × Operand))
 | [] => some []
 | (i, x) :: l => match places[i]?, copPlaces places l with
  | some p, some r => some ((p, x) :: r)
  | _, _ => none
def copBuild (P : Program) (t : Nat) (parts : List (Nat × Operand)) : Option SO :=
 match tinfo P t, P.underlying t with
 | some (_, _, z), some (.struct fs) => match fs.toList.mapM (fun f => (P.info? f.type).map fun i => (f.offset, i.size)) with
  | some places => match copPlaces places parts with
   | some ps => some (.build (svOfs z) ps)
   | none => none
  | none => none
 | _, _ => none
def copBslice (P : Program) (t len : Nat) (parts : List (Nat × Operand)) : Option SO :=
 match P.underlying t with
 | some (.slice e) => match tinfo P e with
  | some (s, _, z) => match Nat.beq s z.length, Nat.ble (len * s) 16777216, Nat.beq parts.length len with
   | true, true, true => some (.bslice e len (ctsOf z) parts)
   | _, _, _ => none
  | none => none
 | _ => none
def concrete (P : Program) (t : Nat) : Bool :=
 match P.underlying t with
 | some (.interface _) => false
 | some _ => true
 | none => false
def copCall (P : Program) (c : Call) : Option SO :=
 match c.callee with
 | .value (.func f) => some (.callF f c.args.toList)
 | .value x => some (.callV x c.args.toList)
 | .invoke _ _ => none
 | .builtin b => match b, c.argTypes.toList, c.args.toList with
  | .len, [t], [x] => match P.underlying t with
   | some .string => some (.len true x)
   | some (.slice _) => some (.len false x)
   | _ => none
  | .cap, [t], [x] => match P.underlying t with
   | some (.slice _) => some (.cap x)
   | _ => none
  | .append, [s, t], [x, y] => match P.underlying s, P.underlying t with
   | some (.slice e), some (.slice _) => match tinfo P e with
    | some (sz, b + 1, z) => match Nat.beq sz z.length with
     | true => some (.app e (b + 1) (ctsOf z) x y)
     | false => none
    | _ => none
   | some (.slice e), some .string => match tinfo P e with
    | some (sz, b + 1, z) => match Nat.beq sz z.length with
     | true => some (.app e (b + 1) (ctsOf z) x y)
     | false => none
    | _ => none
   | some (.slice e), some (.int _) => match tinfo P e with
    | some (sz, b + 1, z) => match Nat.beq sz z.length, z.all Value.oneCell' with
     | true, true => some (.appz e (b + 1) (ctsOf z) x y)
     | _, _ => none
    | _ => none
   | _, _ => none
  | .copy, [s, _], [x, y] => match P.underlying s with
   | some (.slice e) => match tinfo P e with
    | some (sz, _, _) => some (.copy sz x y)
    | none => none
   | _ => none
  | .clear, [s], [x] => match P.underlying s with
   | some (.slice e) => match tinfo P e with
    | some (sz, _, z) => match Nat.beq sz z.length, z.all Value.oneCell' with
     | true, true => some (.clear (ctsOf z) x)
     | _, _ => none
    | none => none
   | _ => none
  | .min, _, [x, y] => some (.min x y)
  | .min, _, [x, y, z] => some (.min3 x y z)
  | .max, _, [x, y] => some (.max x y)
  | .panic, _, _ => some .panic
  | _, _, _ => none
def cop (P : Program) (o : Op) : Option SO :=
 match o with
 | .move x => some (.mov x)
 | .assign x => some (.mov x)
 | .pick c a b => some (.pick c a b)
 | .alloc t => copAlloc P t
 | .box t x => some (.box t x)
 | .load t x => copLoad P t x
 | .store t x v => copStore P t x v
 | .nilCheck x => some (.nilck x)
 | .binOp op t x y _ => some (.bin op (ekOf P t) x y)
 | .unOp op _ x => some (.un op x)
 | .convert s d x => copConv P s d x
 | .makeFunc f a b => some (.mkfn f a.toList b.toList)
 | .makeSlice t l c => copMkslice P t l c
 | .slice t x lo hi mx => copSlice P t x lo hi mx
 | .fieldAddr t x i => copFaddr P t x i
 | .field t x i => copField P t x i
 | .indexAddr t x i => copIaddr P t x i
 | .index t x i => copIndex P t x i
 | .extract x i => some (.extr x i)
 | .build t ps => copBuild P t ps.toList
 | .buildSlice t len ps => copBslice P t len ps.toList
 | .makeInterface t x => match concrete P t with | true => some (.iface t x) | false => none
 | .call c => copCall P c
 | .panic _ => some .panic
 | .defer c => match c.callee, c.args.toList with
  | .value x, [] => some (.defer x)
  | _, _ => none
 | _ => none
inductive KD where
 | pure
 | load
 | eff
 | defer
 deriving DecidableEq
def SO.kd : SO → KD
 | .mov _ | .pick .. | .nilck _ | .bin .. | .un .. | .conv .. | .mkfn .. | .sliceStr .. | .slice .. | .sliceA .. | .faddr .. | .fld .. | .iaddr .. | .iaddrA .. | .idxStr .. | .extr .. | .build .. | .len .. | .cap _ | .min .. | .min3 .. | .max .. | .iface .. => .pure
 | .load1 _ | .loadN .. | .loadA .. | .b2s _ => .load
 | .defer _ => .defer
 | _ => .eff
def ValP (P : Program) (s : Sem Next) (v : Value) : Prop := ∀ w, s.run P w = .ok (.value v) w
theorem runP_val {Γ : Ctx} {hp : List Ch} {s : Sem Value} {K : KV} (h : RunP Γ hp s K) : ∃ x, ValP Γ.P (do pure (.value (← s))) (x.den (bases hp)) ∧ K x hp := by
 obtain ⟨x, h1, h2⟩ := h
 exact ⟨x, fun w => by simp [h1 w], h2⟩
theorem copPlaces_ok {places : List (Nat × Nat)} : ∀ {parts : List (Nat × Operand)} {ps : List ((Nat × Nat) × Operand)}, copPlaces places parts = some ps →
  (parts.map (·.1)).map (places[·]?) = (ps.map (·.1)).map some ∧ parts.map (·.2) = ps.map (·.2)
 | [], ps, h => by
  simp only [copPlaces, Option.some.injEq] at h
  subst h
  exact ⟨rfl, rfl⟩
 | (i, x) :: l, ps, h => by
  simp only [copPlaces] at h
  split at h
  ·rename_i p r hp hr
   cases h
   obtain ⟨h1, h2⟩ := copPlaces_ok hr
   simp only [List.map_cons, hp, h2]
   exact ⟨by rw [h1], trivial⟩
  ·cases h
theorem arr1 {α : Type} {a : Array α} {x : α} (h : a.toList = [x]) : a = #[x] := by cases a; simp_all
theorem arr3 {α : Type} {a : Array α} {x y z : α} (h : a.toList = [x, y, z]) : a = #[x, y, z] := by cases a; simp_all
theorem arr2 {α : Type} {a : Array α} {x y : α} (h : a.toList = [x, y]) : a = #[x, y] := by cases a; simp_all
theorem exec_builtin (ρ : Operand → Value) (o : Oper) (c : Call) (b : Builtin) (ho : o.op = .call c) (hb : c.callee = .builtin b) :
  ∃ cs, ∀ P w, (execOp ρ o).run P w = (builtin b c.argTypes o.type cs (c.args.map ρ)).run P w := by
 have h : ∃ cs, resolve ρ c o.type = pure { target := .builtin b c.argTypes o.type cs, args := c.args.map ρ } := by
  unfold resolve
  rw [hb]
  exact ⟨_, rfl⟩
 obtain ⟨cs, h⟩ := h
 refine ⟨cs, fun P w => ?_⟩
 simp only [execOp, ho, h, Sem.run_bind, Sem.run_pure, Result.andThen_ok, invoke]
theorem sop_pure {Γ : Ctx} {o : Oper} {so : SO} {tm : List (Nat × SV)} {hp : List Ch} {K : KV} {a : Act} {w : World} (hc : cop Γ.P o.op = some so) (hk : so.kd = .pure) (h : sop Γ so tm hp K) (ht : TmOk tm hp a) (hd : DenH Γ hp w) :
  ∃ x, ValP Γ.P (execOp a.eval o) (x.den (bases hp)) ∧ K x hp := by
 obtain ⟨dst, op, type, pos, after, guard⟩ := o
 cases op <;> simp only [cop] at hc
 case move x =>
  cases hc
  obtain ⟨v, h1, h2, _⟩ := evO_ok h ht
  exact ⟨v, fun w => by simp [execOp, h2], h1⟩
 case assign x =>
  cases hc
  obtain ⟨v, h1, h2, _⟩ := evO_ok h ht
  exact ⟨v, fun w => by simp [execOp, h2], h1⟩
 case pick c x y =>
  cases hc
  simp only [sop] at h
  obtain ⟨v, h1, h2, hv⟩ := evO_ok h ht
  split at h1
  ·obtain ⟨u, h3, h4, _⟩ := evO_ok h1 ht
   exact ⟨u, fun w => by simp [execOp, h2, SV.den, asBool, h4], h3⟩
  ·obtain ⟨u, h3, h4, _⟩ := evO_ok h1 ht
   exact ⟨u, fun w => by simp [execOp, h2, SV.den, asBool, h4], h3⟩
  ·rename_i t
   obtain ⟨u, h3, h4, _⟩ := evO_ok h1 ht
   obtain ⟨u', h5, h6, _⟩ := evO_ok h3 ht
   cases hb : t () with
   | true => exact ⟨u, fun w => by simp [execOp, h2, SV.den, asBool, h4, hb], h5.t hb⟩
   | false => exact ⟨u', fun w => by simp [execOp, h2, SV.den, asBool, h6, hb], h5.f hb⟩
  ·exact h1.elim
 case alloc t =>
  unfold copAlloc at hc
  repeat' split at hc
  all_goals first
   | (cases hc; cases hk)
   | cases hc
 case box t x => cases hc; cases hk
 case load t x =>
  unfold copLoad at hc
  repeat' split at hc
  all_goals first
   | (cases hc; cases hk)
   | cases hc
 case store t x v =>
  unfold copStore at hc
  repeat' split at hc
  all_goals first
   | (cases hc; cases hk)
   | cases hc
 case nilCheck x =>
  cases hc
  simp only [sop] at h
  obtain ⟨v, h1, h2, _⟩ := evO_ok h ht
  obtain ⟨h3, h4⟩ := sNilck_ok h1 hd
  refine ⟨v, fun w => ?_, h4⟩
  simp only [execOp, h2]
  revert h3
  generalize v.den (bases hp) = q
  unfold nilFine
  split
  ·intro _; simp
  ·intro _; simp
  ·intro h; cases h
 case binOp op t x y yt =>
  cases hc
  simp only [sop] at h
  obtain ⟨v, h1, h2, _⟩ := evO_ok h ht
  obtain ⟨u, h3, h4, _⟩ := evO_ok h1 ht
  obtain ⟨r, h5, h6⟩ := runP_val (sBin_ok h3 hd (ekOf_ok Γ.P t) x y)
  refine ⟨r, fun w => ?_, h6⟩
  have := h5 w
  simp only [execOp, h2, h4]
  exact this
 case unOp op t x =>
  cases hc
  simp only [sop] at h
  obtain ⟨v, h1, h2, _⟩ := evO_ok h ht
  obtain ⟨r, h5, h6⟩ := runP_val (sUn_ok h1 hd)
  exact ⟨r, fun w => by have := h5 w; simp only [execOp, h2]; exact this, h6⟩
 case convert s d x =>
  unfold copConv at hc
  split at hc
  ·rename_i ds k hs hk'
   cases hc
   simp only [sop] at h
   obtain ⟨v, h1, h2, _⟩ := evO_ok h ht
   obtain ⟨r, h5, h6⟩ := runP_val (sConv_ok h1 hd hs hk')
   exact ⟨r, fun w => by have := h5 w; simp only [execOp, h2]; exact this, h6⟩
  ·repeat' split at hc
   all_goals first
    | (cases hc; cases hk)
    | cases hc
  ·repeat' split at hc
   all_goals first
    | (cases hc; cases hk)
    | cases hc
  ·cases hc
 case makeInterface t x =>
  split at hc
  ·rename_i hcon
   cases hc
   simp only [sop] at h
   obtain ⟨v, h1, h2, _⟩ := evO_ok h ht
   refine ⟨_, fun w => ?_, h1⟩
   unfold concrete at hcon
   split at hcon
   ·cases hcon
   ·rename_i d hne hu
    simp only [execOp, h2, Instr.makeInterface, Sem.run_bind, run_underlying hu]
    cases d <;> simp_all [SV.den]
   ·cases hcon
  ·cases hc
 case makeFunc f x y =>
  cases hc
  simp only [sop] at h
  obtain ⟨v, h1, h2, _⟩ := evOs_ok _ h ht
  obtain ⟨u, h3, h4, _⟩ := evOs_ok _ h1 ht
  refine ⟨_, fun w => ?_, h3⟩
  have e1 : x.map a.eval = (SV.denL (bases hp) v).toArray := by apply Array.ext'; rw [Array.toList_map, h2]
  have e2 : y.map a.eval = (SV.denL (bases hp) u).toArray := by apply Array.ext'; rw [Array.toList_map, h4]
  simp [execOp, Instr.makeFunc, SV.den, e1, e2]
 case makeSlice t l c =>
  unfold copMkslice at hc
  repeat' split at hc
  all_goals first
   | (cases hc; cases hk)
   | cases hc
 case slice t x lo hi mx =>
  unfold copSlice at hc
  split at hc
  ·rename_i hu
   split at hc
   ·cases hc
    simp only [sop] at h
    obtain ⟨v, h1, h2, _⟩ := evO_ok h ht
    obtain ⟨u, h3, h4⟩ := evOpt_ok h1 ht
    obtain ⟨q, h5, h6⟩ := evOpt_ok h3 ht
    obtain ⟨r, h7, h8⟩ := runP_val (sSliceStr_ok h5 hd hu)
    exact ⟨r, fun w => by have := h7 w; simp only [execOp, h2, h4, h6]; exact this, h8⟩
   ·cases hc
  ·rename_i e hu
   split at hc
   ·rename_i s b z hti
    cases hc
    simp only [sop] at h
    obtain ⟨v, h1, h2, _⟩ := evO_ok h ht
    obtain ⟨u, h3, h4⟩ := evOpt_ok h1 ht
    obtain ⟨q, h5, h6⟩ := evOpt_ok h3 ht
    obtain ⟨q', h5', h6'⟩ := evOpt_ok h5 ht
    obtain ⟨r, h7, h8⟩ := runP_val (sSlice_ok h5' hd hu (tinfo_ok hti))
    exact ⟨r, fun w => by have := h7 w; simp only [execOp, h2, h4, h6, h6']; exact this, h8⟩
   ·cases hc
  ·rename_i n e hu
   split at hc
   ·rename_i s b z hti
    cases hc
    simp only [sop] at h
    obtain ⟨v, h1, h2, _⟩ := evO_ok h ht
    obtain ⟨u, h3, h4⟩ := evOpt_ok h1 ht
    obtain ⟨q, h5, h6⟩ := evOpt_ok h3 ht
    obtain ⟨q', h5', h6'⟩ := evOpt_ok h5 ht
    obtain ⟨r, h7, h8⟩ := runP_val (sSliceA_ok h5' hd hu (tinfo_ok hti))
    exact ⟨r, fun w => by have := h7 w; simp only [execOp, h2, h4, h6, h6']; exact this, h8⟩
   ·cases hc
  ·cases hc
 case fieldAddr t x i =>
  unfold copFaddr at hc
  split at hc
  ·rename_i f hf
   obtain ⟨fs, hu, hfi⟩ := fieldOf_ok hf
   split at hc
   ·rename_i m b z hti
    cases hc
    simp only [sop] at h
    obtain ⟨v, h1, h2, _⟩ := evO_ok h ht
    obtain ⟨r, h7, h8⟩ := runP_val (sFaddr_ok h1 hd hu hfi rfl (tinfo_ok hti))
    exact ⟨r, fun w => by have := h7 w; simp only [execOp, h2]; exact this, h8⟩
   ·cases hc
  ·cases hc
 case field t x i =>
  unfold copField at hc
  split at hc
  ·rename_i f hf
   obtain ⟨fs, hu, hfi⟩ := fieldOf_ok hf
   split at hc
   ·rename_i d s b z hu' hti
    split at hc
    ·rename_i hna
     cases hc
     simp only [sop] at h
     obtain ⟨v, h1, h2, _⟩ := evO_ok h ht
     obtain ⟨r, h7, h8⟩ := runP_val (sFld_ok h1 hd hu hfi rfl hu' hna)
     exact ⟨r, fun w => by have := h7 w; simp only [execOp, h2]; exact this, h8⟩
    ·rename_i hna
     cases hc
     simp only [sop] at h
     obtain ⟨v, h1, h2, _⟩ := evO_ok h ht
     obtain ⟨r, h7, h8⟩ := runP_val (sFld_ok h1 hd hu hfi rfl hu' ⟨hna, b, z, tinfo_ok hti⟩)
     exact ⟨r, fun w => by have := h7 w; simp only [execOp, h2]; exact this, h8⟩
   ·cases hc
  ·cases hc
 case indexAddr t x i =>
  unfold copIaddr at hc
  split at hc
  ·rename_i e hu
   split at hc
   ·rename_i s b z hti
    cases hc
    simp only [sop] at h
    obtain ⟨v, h1, h2, _⟩ := evO_ok h ht
    obtain ⟨u, h3, h4, _⟩ := evO_ok h1 ht
    obtain ⟨r, h7, h8⟩ := runP_val (sIaddr_ok h3 hd hu (tinfo_ok hti))
    exact ⟨r, fun w => by have := h7 w; simp only [execOp, h2, h4]; exact this, h8⟩
   ·cases hc
  ·rename_i n e hu
   split at hc
   ·rename_i s b z hti
    cases hc
    simp only [sop] at h
    obtain ⟨v, h1, h2, _⟩ := evO_ok h ht
    obtain ⟨u, h3, h4, _⟩ := evO_ok h1 ht
    obtain ⟨r, h7, h8⟩ := runP_val (sIaddrA_ok h3 hd hu (tinfo_ok hti))
    exact ⟨r, fun w => by have := h7 w; simp only [execOp, h2, h4]; exact this, h8⟩
   ·cases hc
  ·cases hc
 case index t x i =>
  unfold copIndex at hc
  split at hc
  ·rename_i hu
   cases hc
   simp only [sop] at h
   obtain ⟨v, h1, h2, _⟩ := evO_ok h ht
   obtain ⟨u, h3, h4, _⟩ := evO_ok h1 ht
   obtain ⟨r, h7, h8⟩ := runP_val (sIdxStr_ok h3 hd hu)
   exact ⟨r, fun w => by have := h7 w; simp only [execOp, h2, h4]; exact this, h8⟩
  ·cases hc
 case extract x i =>
  cases hc
  simp only [sop] at h
  obtain ⟨v, h1, h2, _⟩ := evO_ok h ht
  obtain ⟨r, h7, h8⟩ := runP_val (sExtr_ok h1 hd)
  exact ⟨r, fun w => by have := h7 w; simp only [execOp, h2]; exact this, h8⟩
 case build t parts =>
  unfold copBuild at hc
  split at hc
  ·rename_i s b z fs hti hu
   split at hc
   ·rename_i places hpl
    split at hc
    ·rename_i ps hps
     cases hc
     simp only [sop] at h
     obtain ⟨vs, h1, h2, h3⟩ := evParts_hs _ h ht
     obtain ⟨c1, c2⟩ := copPlaces_ok hps
     obtain ⟨i, v, hi1, hi2, hi3, hi4, hi5⟩ := (tinfo_ok hti).h
     have e1 : vs.map (·.1) = ps.map (·.1) := by
      have := congrArg (List.map (·.1)) h2
      simpa [List.map_map, Function.comp_def] using this.symm
     have e2 : vs.map (fun p => p.2.den (bases hp)) = ps.map (fun p => a.eval p.2) := by
      have := congrArg (List.map (·.2)) h2
      simpa [List.map_map, Function.comp_def] using this.symm
     have hb : BuildOk Γ.P t (svOfs z) (parts.toList.map (·.1)) (vs.map (·.1)) := by
      refine ⟨i, v, fs, places, hi1, hi4, by rw [hi5], hu, hpl, ?_⟩
      rw [e1]; exact c1
     obtain ⟨r, h7, h8⟩ := runP_val (sBuild_ok h1 hd hb h3 (parts.map fun (i, x) => (i, a.eval x)) (by
      rw [e2]
      have e3 : ps.map (fun p => a.eval p.2) = parts.toList.map (fun p => a.eval p.2) := by
       have := congrArg (List.map a.eval) c2
       simpa [List.map_map, Function.comp_def] using this.symm
      rw [e3, Array.toList_map, List.zip_map']))
     exact ⟨r, fun w => by have := h7 w; simp only [execOp]; exact this, h8⟩
    ·cases hc
   ·cases hc
  ·cases hc
 case buildSlice t len parts =>
  unfold copBslice at hc
  repeat' split at hc
  all_goals first
   | (cases hc; cases hk)
   | cases hc
 case call c =>
  unfold copCall at hc
  split at hc
  ·cases hc; cases hk
  ·cases hc; cases hk
  ·cases hc
  ·rename_i b hb
   split at hc
   ·rename_i t x hts hxs
    have e1 := arr1 hts
    have e2 := arr1 hxs
    split at hc
    ·rename_i hu
     cases hc
     simp only [sop] at h
     obtain ⟨v, h1, h2, _⟩ := evO_ok h ht
     obtain ⟨r, h7, h8⟩ := runP_val (sLen_ok h1 hd (t := t) (by simpa using hu) c.argTypes (by rw [e1]; rfl) type)
     refine ⟨r, fun w => ?_, h8⟩
     have := h7 w
     obtain ⟨cs, hcs⟩ := exec_builtin a.eval { dst, op := .call c, type, pos, after, guard } c .len rfl hb
     rw [hcs]
     simp only [Sem.run_bind, Sem.run_pure, Result.andThen_ok, builtin, e2, List.map_toArray, List.map_cons, List.map_nil, h2] at this ⊢
     exact this
    ·rename_i e hu
     cases hc
     simp only [sop] at h
     obtain ⟨v, h1, h2, _⟩ := evO_ok h ht
     obtain ⟨r, h7, h8⟩ := runP_val (sLen_ok h1 hd (t := t) (by simpa using ⟨e, hu⟩) c.argTypes (by rw [e1]; rfl) type)
     refine ⟨r, fun w => ?_, h8⟩
     have := h7 w
     obtain ⟨cs, hcs⟩ := exec_builtin a.eval { dst, op := .call c, type, pos, after, guard } c .len rfl hb
     rw [hcs]
     simp only [Sem.run_bind, Sem.run_pure, Result.andThen_ok, builtin, e2, List.map_toArray, List.map_cons, List.map_nil, h2] at this ⊢
     exact this
    ·cases hc
   ·rename_i t x hts hxs
    have e1 := arr1 hts
    have e2 := arr1 hxs
    split at hc
    ·rename_i e hu
     cases hc
     simp only [sop] at h
     obtain ⟨v, h1, h2, _⟩ := evO_ok h ht
     obtain ⟨r, h7, h8⟩ := runP_val (sCap_ok h1 hd hu c.argTypes (by rw [e1]; rfl) type)
     refine ⟨r, fun w => ?_, h8⟩
     have := h7 w
     obtain ⟨cs, hcs⟩ := exec_builtin a.eval { dst, op := .call c, type, pos, after, guard } c .cap rfl hb
     rw [hcs]
     simp only [Sem.run_bind, Sem.run_pure, Result.andThen_ok, builtin, e2, List.map_toArray, List.map_cons, List.map_nil, h2] at this ⊢
     exact this
    ·cases hc
   ·repeat' split at hc
    all_goals first
     | (cases hc; cases hk)
     | cases hc
   ·repeat' split at hc
    all_goals first
     | (cases hc; cases hk)
     | cases hc
   ·repeat' split at hc
    all_goals first
     | (cases hc; cases hk)
     | cases hc
   ·rename_i x y hxs
    have e2 := arr2 hxs
    cases hc
    simp only [sop] at h
    obtain ⟨v, h1, h2, _⟩ := evO_ok h ht
    obtain ⟨u, h3, h4, _⟩ := evO_ok h1 ht
    obtain ⟨r, h7, h8⟩ := runP_val (sMin_ok h3 hd c.argTypes type)
    refine ⟨r, fun w => ?_, h8⟩
    have := h7 w
    obtain ⟨cs, hcs⟩ := exec_builtin a.eval { dst, op := .call c, type, pos, after, guard } c .min rfl hb
    rw [hcs]
    simp only [Sem.run_bind, Sem.run_pure, Result.andThen_ok, builtin, e2, List.map_toArray, List.map_cons, List.map_nil, h2, h4] at this ⊢
    exact this
   ·rename_i x y z hxs
    have e2 := arr3 hxs
    cases hc
    simp only [sop] at h
    obtain ⟨v, h1, h2, _⟩ := evO_ok h ht
    obtain ⟨u, h3, h4, _⟩ := evO_ok h1 ht
    obtain ⟨q, h5, h6, _⟩ := evO_ok h3 ht
    obtain ⟨r, h7, h8⟩ := runP_val (sMin3_ok h5 hd c.argTypes type)
    refine ⟨r, fun w => ?_, h8⟩
    have := h7 w
    obtain ⟨cs, hcs⟩ := exec_builtin a.eval { dst, op := .call c, type, pos, after, guard } c .min rfl hb
    rw [hcs]
    simp only [Sem.run_bind, Sem.run_pure, Result.andThen_ok, builtin, e2, List.map_toArray, List.map_cons, List.map_nil, h2, h4, h6] at this ⊢
    exact this
   ·rename_i x y hxs
    have e2 := arr2 hxs
    cases hc
    simp only [sop] at h
    obtain ⟨v, h1, h2, _⟩ := evO_ok h ht
    obtain ⟨u, h3, h4, _⟩ := evO_ok h1 ht
    obtain ⟨r, h7, h8⟩ := runP_val (sMax_ok h3 hd c.argTypes type)
    refine ⟨r, fun w => ?_, h8⟩
    have := h7 w
    obtain ⟨cs, hcs⟩ := exec_builtin a.eval { dst, op := .call c, type, pos, after, guard } c .max rfl hb
    rw [hcs]
    simp only [Sem.run_bind, Sem.run_pure, Result.andThen_ok, builtin, e2, List.map_toArray, List.map_cons, List.map_nil, h2, h4] at this ⊢
    exact this
   ·cases hc; cases hk
   ·cases hc
 case panic x => cases hc; cases hk
 case defer c =>
  repeat' split at hc
  all_goals first
   | (cases hc; cases hk)
   | cases hc
 all_goals cases hc
end Go.Proofs.YtfoffehokhkohaaGreat
