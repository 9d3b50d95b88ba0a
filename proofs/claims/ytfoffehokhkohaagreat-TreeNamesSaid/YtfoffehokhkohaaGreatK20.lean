/- Part 20 of what is proved in the last text (packed by a program of mine). -/
import Derived.Test.YtfoffehokhkohaaGreatK11
import Derived.Test.YtfoffehokhkohaaGreatK12
import Derived.Test.YtfoffehokhkohaaGreatK13
import Derived.Test.YtfoffehokhkohaaGreatK19
set_option linter.all false
namespace Go.Proofs.YtfoffehokhkohaaGreat
open Go
abbrev PG := Nat → Page
def live (σ : Sp) (n : Nat) : Bool := spAsked σ n && decide (σ.now.getD n 0 ≠ 0)
def kidsOf (σ : Sp) (pg : PG) (m : Nat) : List Nat := if live σ m = true then (pg m).kids else []
def kidsAll (σ : Sp) (pg : PG) : List Nat := (List.range σ.blocks).flatMap (kidsOf σ pg)
structure Inv (σ : Sp) (pg : PG) (E : List Nat) : Prop where
 ok : SpOk σ
 small : σ.size * σ.blocks ≤ 65536
 has : ∀ n, live σ n = true → SpHas σ n (pg n)
 cnt : ∀ n, spAsked σ n = true → σ.now.getD n 0 = (E ++ kidsAll σ pg).count n
 ext : ∀ n ∈ E, spAsked σ n = true
 kid : ∀ m, live σ m = true → ∀ k ∈ (pg m).kids, spAsked σ k = true
 rank : ∃ rk : Nat → Nat, ∀ m, live σ m = true → ∀ k ∈ (pg m).kids, rk k < rk m
 own : ∀ n, n < σ.blocks → spAsked σ n = false → σ.now.getD n 0 = 1
 held : ∀ n, n < σ.blocks → σ.held.getD n 0 = if spAsked σ n = true then 0 else 1
inductive Rch (pg : PG) (E : List Nat) : Nat → Prop
 | root {n : Nat} : n ∈ E → Rch pg E n
 | kid {m k : Nat} : Rch pg E m → k ∈ (pg m).kids → Rch pg E k
def Keep (pg pg' : PG) (E : List Nat) : Prop := ∀ m, Rch pg E m → pg' m = pg m
def free (σ : Sp) : Nat := (spFr σ σ.blocks).length
structure Step (k : Nat) (σ σ' : Sp) : Prop where
 size : σ'.size = σ.size
 blocks : σ'.blocks = σ.blocks
 gen : σ'.gen = σ.gen
 root : σ'.root = σ.root
 slot : σ'.slot = σ.slot
 sup : σ'.sup = σ.sup
 held : σ'.held = σ.held
 dur : σ'.dur = σ.dur
 pend : σ'.pend.length ≤ σ.pend.length + k
 fr : ∀ m, (spFr σ m).length ≤ (spFr σ' m).length + k
 low : ∀ m, σ.now.getD m 0 = 0 → σ'.now.getD m 0 ≠ 0 → (spFr σ m).length < k
theorem Step.free {k : Nat} {σ σ' : Sp} (h : Step k σ σ') : Go.Proofs.YtfoffehokhkohaaGreat.free σ ≤ Go.Proofs.YtfoffehokhkohaaGreat.free σ' + k := by
 unfold Go.Proofs.YtfoffehokhkohaaGreat.free; rw [h.blocks]; exact h.fr _
theorem Step.refl (σ : Sp) : Step 0 σ σ := ⟨rfl, rfl, rfl, rfl, rfl, rfl, rfl, rfl, Nat.le_refl _, fun _ => Nat.le_refl _, fun _ h h' => absurd h h'⟩
theorem Step.trans {j k : Nat} {σ σ' σ'' : Sp} (h : Step j σ σ') (g : Step k σ' σ'') : Step (j + k) σ σ'' :=
 ⟨g.size.trans h.size, g.blocks.trans h.blocks, g.gen.trans h.gen, g.root.trans h.root, g.slot.trans h.slot, g.sup.trans h.sup, g.held.trans h.held, g.dur.trans h.dur,
  by have := h.pend; have := g.pend; omega, fun m => by have := h.fr m; have := g.fr m; omega, fun m h0 h1 => by
  by_cases h2 : σ'.now.getD m 0 = 0
  ·have := g.low m h2 h1; have := h.fr m; omega
  ·have := h.low m h0 h2; omega⟩
theorem Step.le {j k : Nat} {σ σ' : Sp} (h : Step j σ σ') (hjk : j ≤ k) : Step k σ σ' :=
 {h with pend := by have := h.pend; omega, fr := fun m => by have := h.fr m; omega, low := fun m h0 h1 => by have := h.low m h0 h1; omega }
theorem Step.asked {k : Nat} {σ σ' : Sp} (h : Step k σ σ') (n : Nat) : spAsked σ' n = spAsked σ n := by
 unfold spAsked; rw [h.blocks, h.sup]
theorem Rch.mono {pg : PG} {E F : List Nat} (h : ∀ n ∈ E, n ∈ F) {m : Nat} (r : Rch pg E m) : Rch pg F m := by
 induction r with
 | root hn => exact .root (h _ hn)
 | kid _ hk ih => exact .kid ih hk
theorem Rch.to {pg : PG} {E F : List Nat} (h : ∀ n ∈ E, Rch pg F n) {m : Nat} (r : Rch pg E m) : Rch pg F m := by
 induction r with
 | root hn => exact h _ hn
 | kid _ hk ih => exact .kid ih hk
theorem Keep.reach {pg pg' : PG} {E : List Nat} (h : Keep pg pg' E) {m : Nat} (r : Rch pg E m) : Rch pg' E m := by
 induction r with
 | root hn => exact .root hn
 | kid hr hk ih => exact .kid ih (by rw [h _ hr]; exact hk)
theorem Keep.refl (pg : PG) (E : List Nat) : Keep pg pg E := fun _ _ => rfl
theorem Keep.trans {pg pg' pg'' : PG} {E : List Nat} (h : Keep pg pg' E) (g : Keep pg' pg'' E) : Keep pg pg'' E :=
 fun m r => (g m (h.reach r)).trans (h m r)
theorem Keep.mono {pg pg' : PG} {E F : List Nat} (h : Keep pg pg' F) (hs : ∀ n ∈ E, n ∈ F) : Keep pg pg' E := fun m r => h m (r.mono hs)
theorem Keep.to {pg pg' : PG} {E F : List Nat} (h : Keep pg pg' F) (hs : ∀ n ∈ E, Rch pg F n) : Keep pg pg' E := fun m r => h m (r.to hs)
theorem live_asked {σ : Sp} {n : Nat} (h : live σ n = true) : spAsked σ n = true := by
 unfold live at h; rw [Bool.and_eq_true] at h; exact h.1
theorem live_now {σ : Sp} {n : Nat} (h : live σ n = true) : σ.now.getD n 0 ≠ 0 := by
 unfold live at h; rw [Bool.and_eq_true] at h; exact of_decide_eq_true h.2
theorem live_mk {σ : Sp} {n : Nat} (h : spAsked σ n = true) (h0 : σ.now.getD n 0 ≠ 0) : live σ n = true := by
 unfold live; rw [h, decide_eq_true h0]; rfl
theorem asked_lt {σ : Sp} {n : Nat} (h : spAsked σ n = true) : 2 ≤ n ∧ n < σ.blocks ∧ n ∉ σ.sup := by
 unfold spAsked at h
 simp only [Bool.and_eq_true, decide_eq_true_eq, Bool.not_eq_true', List.contains_eq_mem, decide_eq_false_iff_not] at h
 exact ⟨h.1, h.2.1, h.2.2⟩
theorem cnt_cons (a n : Nat) (l : List Nat) : (a :: l).count n = l.count n + if n = a then 1 else 0 := by
 rw [List.count_cons]
 by_cases h : n = a
 ·subst h; simp
 ·rw [if_neg h, if_neg (by simpa using Ne.symm h)]
theorem Inv.perm {σ : Sp} {pg : PG} {E F : List Nat} (h : Inv σ pg E) (hp : List.Perm E F) : Inv σ pg F :=
 {h with cnt := fun n hn => by rw [h.cnt n hn, List.count_append, List.count_append, hp.count_eq], ext := fun n hn => h.ext n (hp.mem_iff.2 hn) }
theorem mem_kidsAll {σ : Sp} {pg : PG} {k : Nat} : k ∈ kidsAll σ pg ↔ ∃ m, live σ m = true ∧ k ∈ (pg m).kids := by
 unfold kidsAll kidsOf
 rw [List.mem_flatMap]
 constructor
 ·rintro ⟨m, _, hk⟩
  split at hk
  ·rename_i hm; exact ⟨m, hm, hk⟩
  ·cases hk
 ·rintro ⟨m, hm, hk⟩
  exact ⟨m, List.mem_range.2 (asked_lt (live_asked hm)).2.1, by rw [if_pos hm]; exact hk⟩
theorem Inv.live_ext {σ : Sp} {pg : PG} {E : List Nat} (h : Inv σ pg E) {n : Nat} (hn : n ∈ E) : live σ n = true := by
 refine live_mk (h.ext n hn) ?_
 rw [h.cnt n (h.ext n hn)]
 exact Nat.pos_iff_ne_zero.1 (List.count_pos_iff.2 (List.mem_append_left _ hn))
theorem Inv.live_kid {σ : Sp} {pg : PG} {E : List Nat} (h : Inv σ pg E) {m k : Nat} (hm : live σ m = true) (hk : k ∈ (pg m).kids) : live σ k = true := by
 refine live_mk (h.kid m hm k hk) ?_
 rw [h.cnt k (h.kid m hm k hk)]
 exact Nat.pos_iff_ne_zero.1 (List.count_pos_iff.2 (List.mem_append_right _ (mem_kidsAll.2 ⟨m, hm, hk⟩)))
theorem Inv.live_reach {σ : Sp} {pg : PG} {E : List Nat} (h : Inv σ pg E) {m : Nat} (r : Rch pg E m) : live σ m = true := by
 induction r with
 | root hn => exact h.live_ext hn
 | kid _ hk ih => exact h.live_kid ih hk
theorem le_foldr_max (f : Nat → Nat) : ∀ (l : List Nat) (m : Nat), m ∈ l → f m ≤ (l.map f).foldr max 0
 | a :: l, m, h => by
  rcases List.mem_cons.1 h with rfl | h
  ·simp only [List.map_cons, List.foldr_cons]; omega
  ·have := le_foldr_max f l m h
   simp only [List.map_cons, List.foldr_cons]; omega
theorem Inv.reach_live {σ : Sp} {pg : PG} {E : List Nat} (h : Inv σ pg E) {m : Nat} (hm : live σ m = true) : Rch pg E m := by
 obtain ⟨rk, hrk⟩ := h.rank
 have main : ∀ (d m : Nat), live σ m = true → ((List.range σ.blocks).map rk).foldr max 0 ≤ rk m + d → Rch pg E m := by
  intro d
  induction d with
  | zero =>
   intro m hm hd
   have h1 := h.cnt m (live_asked hm)
   have h2 : m ∈ E ++ kidsAll σ pg := List.count_pos_iff.1 (by have := live_now hm; omega)
   rcases List.mem_append.1 h2 with h3 | h3
   ·exact .root h3
   ·obtain ⟨m', hm', hk⟩ := mem_kidsAll.1 h3
    have := hrk m' hm' m hk
    have := le_foldr_max rk (List.range σ.blocks) m' (List.mem_range.2 (asked_lt (live_asked hm')).2.1)
    omega
  | succ d ih =>
   intro m hm hd
   have h1 := h.cnt m (live_asked hm)
   have h2 : m ∈ E ++ kidsAll σ pg := List.count_pos_iff.1 (by have := live_now hm; omega)
   rcases List.mem_append.1 h2 with h3 | h3
   ·exact .root h3
   ·obtain ⟨m', hm', hk⟩ := mem_kidsAll.1 h3
    have := hrk m' hm' m hk
    exact .kid (ih m' hm' (by omega)) hk
 exact main _ m hm (Nat.le_add_left _ _)
def spNow (σ : Sp) (c : List Nat) : Sp := { σ with now := c }
theorem asked_now (σ : Sp) (c : List Nat) (n : Nat) : spAsked (spNow σ c) n = spAsked σ n := rfl
theorem getD_set (c : List Nat) (n m x : Nat) (hn : n < c.length) : (c.set n x).getD m 0 = if m = n then x else c.getD m 0 := by
 rw [List.getD_eq_getElem?_getD, List.getD_eq_getElem?_getD, List.getElem?_set]
 by_cases h : n = m
 ·subst h; rw [if_pos rfl, if_pos rfl, if_pos hn]; rfl
 ·rw [if_neg h, if_neg (Ne.symm h)]
theorem SpOk.setNow {σ : Sp} (h : SpOk σ) (n x : Nat) (hx : x < 65536) : SpOk (spNow σ (σ.now.set n x)) :=
 {h with now := h.now.set n x hx, nl := by show (σ.now.set n x).length = _; rw [List.length_set]; exact h.nl }
theorem asked_now_lt {σ : Sp} {n : Nat} (h : SpOk σ) (hn : spAsked σ n = true) : n < σ.now.length := by
 rw [h.nl]; exact (asked_lt hn).2.1
theorem live_set {σ : Sp} {n x : Nat} (h : SpOk σ) (hn : spAsked σ n = true) (m : Nat) :
  live (spNow σ (σ.now.set n x)) m = if m = n then decide (x ≠ 0) else live σ m := by
 unfold live
 rw [asked_now]
 show (spAsked σ m && decide ((σ.now.set n x).getD m 0 ≠ 0)) = _
 rw [getD_set _ _ _ _ (asked_now_lt h hn)]
 by_cases hm : m = n
 ·subst hm; rw [if_pos rfl, if_pos rfl, hn]; rfl
 ·rw [if_neg hm, if_neg hm]
theorem sum_upd (f g : Nat → Nat) (n : Nat) (h : ∀ j, j ≠ n → f j = g j) : ∀ N, n < N → ((List.range N).map f).sum + g n = ((List.range N).map g).sum + f n
 | 0, hn => by omega
 | N + 1, hn => by
  rw [List.range_succ, List.map_append, List.map_append, List.sum_append, List.sum_append]
  simp only [List.map_cons, List.map_nil, List.sum_cons, List.sum_nil]
  by_cases hN : n = N
  ·subst hN
   have : (List.range n).map f = (List.range n).map g := List.map_congr_left fun j hj => h j (by have := List.mem_range.1 hj; omega)
   rw [this]; omega
  ·have := sum_upd f g n h N (by omega)
   have := h N (Ne.symm hN)
   omega
theorem kids_count (σ : Sp) (pg : PG) (k : Nat) : (kidsAll σ pg).count k = ((List.range σ.blocks).map fun m => (kidsOf σ pg m).count k).sum := by
 unfold kidsAll
 rw [List.count_flatMap]
 rfl
theorem kids_upd {σ σ' : Sp} {pg pg' : PG} (n k : Nat) (hb : σ'.blocks = σ.blocks) (hn : n < σ.blocks) (h : ∀ m, m ≠ n → kidsOf σ' pg' m = kidsOf σ pg m) :
  (kidsAll σ' pg').count k + (kidsOf σ pg n).count k = (kidsAll σ pg).count k + (kidsOf σ' pg' n).count k := by
 rw [kids_count, kids_count, hb]
 exact sum_upd (fun m => (kidsOf σ' pg' m).count k) (fun m => (kidsOf σ pg m).count k) n (fun j hj => by simp only [h j hj]) _ hn
theorem kids_same {σ σ' : Sp} {pg pg' : PG} (hb : σ'.blocks = σ.blocks) (h : ∀ m, kidsOf σ' pg' m = kidsOf σ pg m) : kidsAll σ' pg' = kidsAll σ pg := by
 unfold kidsAll; rw [hb]
 exact congrArg (fun f => List.flatMap f (List.range σ.blocks)) (funext h)
theorem Step.calm {σ : Sp} {c : List Nat} (h : ∀ m, σ.now.getD m 0 = 0 → c.getD m 0 = 0) : Step 0 σ (spNow σ c) := by
 refine ⟨rfl, rfl, rfl, rfl, rfl, rfl, rfl, rfl, Nat.le_refl _, fun m => ?_, fun m h0 h1 => absurd (h m h0) h1⟩
 unfold spFr
 rw [← List.countP_eq_length_filter, ← List.countP_eq_length_filter]
 refine List.countP_mono_left fun n _ hn => ?_
 simp only [Bool.and_eq_true, decide_eq_true_eq, beq_iff_eq] at hn ⊢
 have := h n (by omega)
 refine ⟨hn.1, ?_⟩
 show c.getD n 0 + σ.held.getD n 0 = 0
 omega
theorem Inv.share {σ : Sp} {pg : PG} {E : List Nat} (h : Inv σ pg E) {n : Nat} (hn : live σ n = true) (hc : σ.now.getD n 0 < 65535) :
  cAdd σ.now n = (0, σ.now.set n (σ.now.getD n 0 + 1)) ∧ Inv (spNow σ (σ.now.set n (σ.now.getD n 0 + 1))) pg (n :: E) ∧ Step 0 σ (spNow σ (σ.now.set n (σ.now.getD n 0 + 1))) := by
 have ha := live_asked hn
 obtain ⟨h2, h3, _⟩ := asked_lt ha
 have h0 := live_now hn
 have hl := asked_now_lt h.ok ha
 have lv : ∀ m, live (spNow σ (σ.now.set n (σ.now.getD n 0 + 1))) m = live σ m := by
  intro m
  rw [live_set h.ok ha]
  split
  ·rename_i hm; subst hm; rw [hn]; exact decide_eq_true (by omega)
  ·rfl
 have kd : kidsAll (spNow σ (σ.now.set n (σ.now.getD n 0 + 1))) pg = kidsAll σ pg := kids_same rfl fun m => by unfold kidsOf; rw [lv]
 refine ⟨?_, ?_, ?_⟩
 ·unfold cAdd cErr
  rw [if_neg (show ¬(n < 2 ∨ σ.now.length ≤ n) by omega), if_neg h0, if_neg (by simp), if_neg (by omega)]
 ·refine ⟨h.ok.setNow _ _ (by omega), h.small, fun m hm => h.has m (by rw [← lv]; exact hm), fun m hm => ?_, fun m hm => ?_, fun m hm => h.kid m (by rw [← lv]; exact hm), ?_, fun m hm ha' => ?_, h.held⟩
  ·rw [kd]
   show (σ.now.set n _).getD m 0 = _
   rw [getD_set _ _ _ _ hl, List.cons_append, cnt_cons]
   have := h.cnt m hm
   split
   ·rename_i e; subst e; omega
   ·omega
  ·rcases List.mem_cons.1 hm with rfl | hm
   ·exact ha
   ·exact h.ext m hm
  ·obtain ⟨rk, hrk⟩ := h.rank
   exact ⟨rk, fun m hm => hrk m (by rw [← lv]; exact hm)⟩
  ·show (σ.now.set n _).getD m 0 = _
   rw [getD_set _ _ _ _ hl, if_neg (by rintro rfl; rw [asked_now, ha] at ha'; cases ha')]
   exact h.own m hm ha'
 ·refine Step.calm fun m hm => ?_
  show (σ.now.set n _).getD m 0 = 0
  rw [getD_set _ _ _ _ hl, if_neg (by rintro rfl; exact h0 hm)]
  exact hm
theorem Inv.sub {σ : Sp} {pg : PG} {E : List Nat} {n : Nat} (h : Inv σ pg (n :: E)) (h1 : σ.now.getD n 0 ≠ 1) :
  cSub σ.now n = (0, σ.now.set n (σ.now.getD n 0 - 1)) ∧ Inv (spNow σ (σ.now.set n (σ.now.getD n 0 - 1))) pg E ∧ Step 0 σ (spNow σ (σ.now.set n (σ.now.getD n 0 - 1))) := by
 have hn := h.live_ext (List.mem_cons_self)
 have ha := live_asked hn
 obtain ⟨h2, h3, _⟩ := asked_lt ha
 have h0 := live_now hn
 have hl := asked_now_lt h.ok ha
 have hlt := h.ok.now.getD n
 have lv : ∀ m, live (spNow σ (σ.now.set n (σ.now.getD n 0 - 1))) m = live σ m := by
  intro m
  rw [live_set h.ok ha]
  split
  ·rename_i hm; subst hm; rw [hn]; exact decide_eq_true (by omega)
  ·rfl
 have kd : kidsAll (spNow σ (σ.now.set n (σ.now.getD n 0 - 1))) pg = kidsAll σ pg := kids_same rfl fun m => by unfold kidsOf; rw [lv]
 refine ⟨?_, ?_, ?_⟩
 ·unfold cSub cErr
  rw [if_neg (show ¬(n < 2 ∨ σ.now.length ≤ n) by omega), if_neg h0, if_neg (by simp)]
 ·refine ⟨h.ok.setNow _ _ (by omega), h.small, fun m hm => h.has m (by rw [← lv]; exact hm), fun m hm => ?_, fun m hm => h.ext m (List.mem_cons_of_mem _ hm), fun m hm => h.kid m (by rw [← lv]; exact hm), ?_, fun m hm ha' => ?_, h.held⟩
  ·rw [kd]
   show (σ.now.set n _).getD m 0 = _
   have := h.cnt m hm
   rw [List.cons_append, cnt_cons] at this
   rw [getD_set _ _ _ _ hl]
   split
   ·rename_i e; subst e; rw [if_pos rfl] at this; omega
   ·rename_i e; rw [if_neg e] at this; omega
  ·obtain ⟨rk, hrk⟩ := h.rank
   exact ⟨rk, fun m hm => hrk m (by rw [← lv]; exact hm)⟩
  ·show (σ.now.set n _).getD m 0 = _
   rw [getD_set _ _ _ _ hl, if_neg (by rintro rfl; rw [asked_now, ha] at ha'; cases ha')]
   exact h.own m hm ha'
 ·refine Step.calm fun m hm => ?_
  show (σ.now.set n _).getD m 0 = 0
  rw [getD_set _ _ _ _ hl, if_neg (by rintro rfl; exact h0 hm)]
  exact hm
theorem Inv.last {σ : Sp} {pg : PG} {E : List Nat} {n : Nat} (h : Inv σ pg (n :: E)) (h1 : σ.now.getD n 0 = 1) :
  cSub σ.now n = (0, σ.now.set n 0) ∧ Inv (spNow σ (σ.now.set n 0)) pg ((pg n).kids ++ E) ∧ Step 0 σ (spNow σ (σ.now.set n 0)) := by
 have hn := h.live_ext (List.mem_cons_self)
 have ha := live_asked hn
 obtain ⟨h2, h3, _⟩ := asked_lt ha
 have hl := asked_now_lt h.ok ha
 have lv : ∀ m, live (spNow σ (σ.now.set n 0)) m = if m = n then false else live σ m := by
  intro m
  rw [live_set h.ok ha]
  rfl
 have lv' : ∀ m, live (spNow σ (σ.now.set n 0)) m = true → m ≠ n ∧ live σ m = true := by
  intro m hm
  rw [lv] at hm
  split at hm
  ·cases hm
  ·rename_i e; exact ⟨e, hm⟩
 obtain ⟨rk, hrk⟩ := h.rank
 have kd := fun k => kids_upd (σ := σ) (σ' := spNow σ (σ.now.set n 0)) (pg := pg) (pg' := pg) n k rfl h3 (fun m hm => by unfold kidsOf; rw [lv, if_neg hm])
 have k1 : kidsOf (spNow σ (σ.now.set n 0)) pg n = [] := by unfold kidsOf; rw [lv, if_pos rfl]; rfl
 have k2 : kidsOf σ pg n = (pg n).kids := by unfold kidsOf; rw [if_pos hn]
 refine ⟨?_, ?_, ?_⟩
 ·unfold cSub cErr
  rw [if_neg (show ¬(n < 2 ∨ σ.now.length ≤ n) by omega), if_neg (show ¬σ.now.getD n 0 = 0 by omega), if_neg (by simp), h1]
 ·refine ⟨h.ok.setNow _ _ (by omega), h.small, fun m hm => h.has m (lv' m hm).2, fun m hm => ?_, fun m hm => ?_, fun m hm => h.kid m (lv' m hm).2, ⟨rk, fun m hm => hrk m (lv' m hm).2⟩, fun m hm ha' => ?_, h.held⟩
  ·show (σ.now.set n _).getD m 0 = _
   have hc := h.cnt m hm
   have hk := kd m
   rw [k1, k2, List.count_nil] at hk
   rw [List.cons_append, cnt_cons, List.count_append] at hc
   rw [getD_set _ _ _ _ hl, List.count_append, List.count_append]
   split
   ·rename_i e; subst e; rw [if_pos rfl] at hc; omega
   ·rename_i e; rw [if_neg e] at hc; omega
  ·rcases List.mem_append.1 hm with hm | hm
   ·exact h.kid n hn m hm
   ·exact h.ext m (List.mem_cons_of_mem _ hm)
  ·show (σ.now.set n _).getD m 0 = _
   rw [getD_set _ _ _ _ hl, if_neg (by rintro rfl; rw [asked_now, ha] at ha'; cases ha')]
   exact h.own m hm ha'
 ·refine Step.calm fun m hm => ?_
  show (σ.now.set n _).getD m 0 = 0
  rw [getD_set _ _ _ _ hl]
  split
  ·rfl
  ·exact hm
def refsN (σ : Sp) (pg : PG) (E : List Nat) : Nat := E.length + (kidsAll σ pg).length
theorem kids_len (σ : Sp) (pg : PG) : (kidsAll σ pg).length = ((List.range σ.blocks).map fun m => (kidsOf σ pg m).length).sum := by
 unfold kidsAll
 rw [List.length_flatMap]
theorem Inv.last_n {σ : Sp} {pg : PG} {E : List Nat} {n : Nat} (h : Inv σ pg (n :: E)) : refsN (spNow σ (σ.now.set n 0)) pg ((pg n).kids ++ E) + 1 = refsN σ pg (n :: E) := by
 have hn := h.live_ext (List.mem_cons_self)
 have ha := live_asked hn
 have lv : ∀ m, live (spNow σ (σ.now.set n 0)) m = if m = n then false else live σ m := by
  intro m
  rw [live_set h.ok ha]
  rfl
 have k1 : kidsOf (spNow σ (σ.now.set n 0)) pg n = [] := by unfold kidsOf; rw [lv, if_pos rfl]; rfl
 have k2 : kidsOf σ pg n = (pg n).kids := by unfold kidsOf; rw [if_pos hn]
 have := sum_upd (fun m => (kidsOf (spNow σ (σ.now.set n 0)) pg m).length) (fun m => (kidsOf σ pg m).length) n (fun m hm => by show (kidsOf _ pg m).length = _; unfold kidsOf; rw [lv, if_neg hm]) σ.blocks (asked_lt ha).2.1
 simp only [k1, k2, List.length_nil] at this
 unfold refsN
 rw [kids_len, kids_len, List.length_append, List.length_cons]
 show (pg n).kids.length + E.length + ((List.range σ.blocks).map fun m => (kidsOf (spNow σ (σ.now.set n 0)) pg m).length).sum + 1 = _
 omega
theorem Inv.sub_n {σ : Sp} {pg : PG} {E : List Nat} {n : Nat} (h : Inv σ pg (n :: E)) (h1 : σ.now.getD n 0 ≠ 1) : refsN (spNow σ (σ.now.set n (σ.now.getD n 0 - 1))) pg E + 1 = refsN σ pg (n :: E) := by
 have hn := h.live_ext (List.mem_cons_self)
 have ha := live_asked hn
 have h0 := live_now hn
 have lv : ∀ m, live (spNow σ (σ.now.set n (σ.now.getD n 0 - 1))) m = live σ m := by
  intro m
  rw [live_set h.ok ha]
  split
  ·rename_i hm; subst hm; rw [hn]; exact decide_eq_true (by omega)
  ·rfl
 have kd : kidsAll (spNow σ (σ.now.set n (σ.now.getD n 0 - 1))) pg = kidsAll σ pg := kids_same rfl fun m => by unfold kidsOf; rw [lv]
 unfold refsN
 rw [kd, List.length_cons]
 omega
theorem sum_bound (f : Nat → Nat) (b : Nat) (h : ∀ m, f m ≤ b) : ∀ N, ((List.range N).map f).sum ≤ N * b
 | 0 => by simp
 | N + 1 => by
  rw [List.range_succ, List.map_append, List.sum_append, Nat.succ_mul]
  have := sum_bound f b h N
  have := h N
  simp only [List.map_cons, List.map_nil, List.sum_cons, List.sum_nil]
  omega
theorem Inv.kids_le {σ : Sp} {pg : PG} {E : List Nat} (h : Inv σ pg E) : (kidsAll σ pg).length ≤ 16384 := by
 rw [kids_len]
 have h1 : ∀ m, (kidsOf σ pg m).length ≤ σ.size / 4 := by
  intro m
  unfold kidsOf
  split
  ·rename_i hm
   have := (h.has m hm).1.fits
   omega
  ·simp
 have h2 := sum_bound _ _ h1 σ.blocks
 have h3 : σ.blocks * (σ.size / 4) * 4 ≤ σ.size * σ.blocks := by
  rw [Nat.mul_assoc, Nat.mul_comm σ.size]
  exact Nat.mul_le_mul_left _ (Nat.div_mul_le_self _ _)
 have h4 := h.small
 omega
theorem Inv.now_le {σ : Sp} {pg : PG} {E : List Nat} (h : Inv σ pg E) {n : Nat} (hn : spAsked σ n = true) : σ.now.getD n 0 ≤ E.length + 16384 := by
 rw [h.cnt n hn, List.count_append]
 have := h.kids_le
 have := @List.count_le_length Nat _ n E
 have := @List.count_le_length Nat _ n (kidsAll σ pg)
 omega
theorem devCur_put (dur : List Bytes) (pend : List (Nat × Bytes)) (n : Nat) (b : Bytes) (m : Nat) : devCur dur (pend ++ [(n, b)]) m = if m = n then b else devCur dur pend m := by
 unfold devCur
 rw [List.reverse_append, List.reverse_singleton, List.singleton_append, List.find?_cons]
 by_cases h : m = n
 ·subst h; simp
 ·rw [if_neg h]
  have : (n == m) = false := by simpa using Ne.symm h
  simp only [this]
theorem Inv.take {σ : Sp} {pg : PG} {E : List Nat} (h : Inv σ pg E) (hf : 0 < free σ) : ∃ n, cTake σ.now σ.held = some n ∧ spAsked σ n = true ∧ σ.now.getD n 0 = 0 := by
 unfold free spFr at hf
 obtain ⟨m, hm⟩ := List.length_pos_iff_exists_mem.1 hf
 rw [List.mem_filter] at hm
 obtain ⟨hm1, hm2⟩ := hm
 simp only [Bool.and_eq_true, decide_eq_true_eq, beq_iff_eq] at hm2
 have hml := List.mem_range.1 hm1
 have hfd : ((List.range σ.now.length).find? fun i => σ.now.getD i 0 == 0 && σ.held.getD i 0 == 0).isSome = true := by
  rw [List.find?_isSome]
  exact ⟨m, List.mem_range.2 (by rw [h.ok.nl]; exact hml), by simp only [Bool.and_eq_true, beq_iff_eq]; omega⟩
 obtain ⟨n, hn⟩ := Option.isSome_iff_exists.1 hfd
 refine ⟨n, hn, ?_⟩
 have h1 := List.find?_some hn
 have h2 := List.mem_range.1 (List.mem_of_find?_eq_some hn)
 simp only [Bool.and_eq_true, beq_iff_eq] at h1
 refine ⟨?_, h1.1⟩
 have h3 := h.held n (by rw [← h.ok.nl]; exact h2)
 by_cases ha : spAsked σ n = true
 ·exact ha
 ·rw [if_neg ha] at h3; omega
theorem filt_sum (f : Nat → Bool) : ∀ l : List Nat, (l.filter f).length = (l.map fun m => if f m = true then 1 else 0).sum
 | [] => rfl
 | a :: l => by
  rw [List.filter_cons, List.map_cons, List.sum_cons]
  split
  ·rename_i h; rw [List.length_cons, filt_sum f l]; omega
  ·rename_i h; rw [filt_sum f l]; omega
theorem fr_put {σ : Sp} {p : Page} {n : Nat} (hl : n < σ.now.length) (m : Nat) : (spFr σ m).length ≤ (spFr (spPut σ n p) m).length + 1 := by
 have he : ∀ j, j ≠ n → (spPut σ n p).now.getD j 0 = σ.now.getD j 0 := fun j hj => by
  show (σ.now.set n 1).getD j 0 = _
  rw [getD_set _ _ _ _ hl, if_neg hj]
 have e2 : (spPut σ n p).held = σ.held := rfl
 unfold spFr
 rw [filt_sum, filt_sum]
 by_cases hn : n < m
 ·have := sum_upd (fun m => if (decide (2 ≤ m) && (σ.now.getD m 0 + σ.held.getD m 0 == 0)) = true then 1 else 0)
   (fun m => if (decide (2 ≤ m) && ((spPut σ n p).now.getD m 0 + (spPut σ n p).held.getD m 0 == 0)) = true then 1 else 0) n
   (fun m hm => by simp only [he m hm, e2]) m hn
  have h1 : (if (decide (2 ≤ n) && (σ.now.getD n 0 + σ.held.getD n 0 == 0)) = true then 1 else 0) ≤ 1 := by split <;> omega
  omega
 ·refine Nat.le_trans (Nat.le_of_eq ?_) (Nat.le_add_right _ 1)
  exact congrArg List.sum (List.map_congr_left fun j hj => by rw [he j (by have := List.mem_range.1 hj; omega), e2])
def pgPut (pg : PG) (n : Nat) (p : Page) : PG := fun m => if m = n then p else pg m
theorem Inv.put {σ : Sp} {pg : PG} {E : List Nat} {p : Page} {n : Nat} (h : Inv σ pg (p.kids ++ E)) (hp : PageOk σ.size σ.blocks p) (hn : spAsked σ n = true) (h0 : σ.now.getD n 0 = 0) (ht : cTake σ.now σ.held = some n) (hg : σ.gen + 1 < 9223372036854775808) (hpl : σ.pend.length < 800000000) :
  Inv (spPut σ n p) (pgPut pg n p) (n :: E) ∧ Step 1 σ (spPut σ n p) ∧ Keep pg (pgPut pg n p) (p.kids ++ E) := by
 obtain ⟨h2, h3, h4⟩ := asked_lt hn
 have hl := asked_now_lt h.ok hn
 have ak : ∀ m, spAsked (spPut σ n p) m = spAsked σ m := fun _ => rfl
 have lv : ∀ m, live (spPut σ n p) m = if m = n then true else live σ m := by
  intro m
  have := live_set (x := 1) h.ok hn m
  exact this
 have dead : live σ n = false := by
  cases e : live σ n with
  | false => rfl
  | true => exact absurd h0 (live_now e)
 have nokid : ∀ m, live σ m = true → n ∉ (pg m).kids := fun m hm hk => by rw [h.live_kid hm hk] at dead; cases dead
 have noext : ∀ m ∈ p.kids ++ E, m ≠ n := fun m hm e => by subst e; rw [h.live_ext hm] at dead; cases dead
 have pgn : ∀ m, live σ m = true → pgPut pg n p m = pg m := fun m hm => if_neg (by rintro rfl; rw [hm] at dead; cases dead)
 have k1 : kidsOf (spPut σ n p) (pgPut pg n p) n = p.kids := by unfold kidsOf; rw [lv, if_pos rfl, if_pos rfl]; unfold pgPut; rw [if_pos rfl]
 have k2 : kidsOf σ pg n = [] := by unfold kidsOf; rw [dead]; rfl
 have kd := fun k => kids_upd (σ := σ) (σ' := spPut σ n p) (pg := pg) (pg' := pgPut pg n p) n k rfl h3 (fun m hm => by unfold kidsOf; rw [lv, if_neg hm]; unfold pgPut; rw [if_neg hm])
 obtain ⟨rk, hrk⟩ := h.rank
 have ls : ∀ m, live (spPut σ n p) m = true → m = n ∨ (m ≠ n ∧ live σ m = true) := by
  intro m hm
  rw [lv] at hm
  split at hm
  ·rename_i e; exact .inl e
  ·rename_i e; exact .inr ⟨e, hm⟩
 refine ⟨?_, ?_, ?_⟩
 ·refine ⟨?_, h.small, fun m hm => ?_, fun m hm => ?_, fun m hm => ?_, fun m hm => ?_, ⟨fun m => if m = n then (p.kids.map rk).foldr max 0 + 1 else rk m, fun m hm k hk => ?_⟩, fun m hm ha' => ?_, h.held⟩
  ·have h5 := h.ok.setNow n 1 (by omega)
   exact { h5 with pl := by show (σ.pend ++ [_]).length < _; rw [List.length_append]; simp; omega, pn := fun x hx => by
                     rcases List.mem_append.1 (show x ∈ σ.pend ++ [_] from hx) with hx | hx
                     ·exact h.ok.pn x hx
                     ·rw [List.mem_singleton] at hx; subst hx; exact h3 }
  ·rcases ls m hm with rfl | ⟨hmn, hm⟩
   ·refine ⟨by unfold pgPut; rw [if_pos rfl]; exact hp, σ.gen + 1, by omega, ?_⟩
    show devCur σ.dur (σ.pend ++ [(m, pageB σ.size (σ.gen + 1) p)]) m = _
    rw [devCur_put, if_pos rfl]; unfold pgPut; rw [if_pos rfl]; rfl
   ·rw [pgn m hm]
    obtain ⟨h6, g, h7, h8⟩ := h.has m hm
    refine ⟨h6, g, h7, ?_⟩
    show devCur σ.dur (σ.pend ++ [(n, pageB σ.size (σ.gen + 1) p)]) m = _
    rw [devCur_put, if_neg hmn]; exact h8
  ·show (σ.now.set n 1).getD m 0 = _
   have hc := h.cnt m hm
   have hk := kd m
   rw [k1, k2, List.count_nil] at hk
   rw [List.count_append, List.count_append] at hc
   rw [getD_set _ _ _ _ hl, List.cons_append, cnt_cons, List.count_append]
   split
   ·rename_i e; subst e; omega
   ·omega
  ·rcases List.mem_cons.1 hm with rfl | hm
   ·exact hn
   ·exact h.ext m (List.mem_append_right _ hm)
  ·intro k hk
   rcases ls m hm with rfl | ⟨_, hm⟩
   ·unfold pgPut at hk; rw [if_pos rfl] at hk; exact h.ext k (List.mem_append_left _ hk)
   ·rw [pgn m hm] at hk; exact h.kid m hm k hk
  ·show (if k = n then _ else rk k) < (if m = n then _ else rk m)
   rcases ls m hm with rfl | ⟨hmn, hm⟩
   ·unfold pgPut at hk; rw [if_pos rfl] at hk
    rw [if_pos rfl, if_neg (noext k (List.mem_append_left _ hk))]
    have := le_foldr_max rk p.kids k hk
    omega
   ·rw [pgn m hm] at hk
    rw [if_neg hmn, if_neg (by rintro rfl; exact nokid m ‹_› hk)]
    exact hrk m hm k hk
  ·show (σ.now.set n _).getD m 0 = _
   rw [getD_set _ _ _ _ hl, if_neg (by rintro rfl; rw [ak, hn] at ha'; cases ha')]
   exact h.own m hm ha'
 ·refine ⟨rfl, rfl, rfl, rfl, rfl, rfl, rfl, rfl, by show (σ.pend ++ [_]).length ≤ _; simp, fr_put hl, fun m m0 m1 => ?_⟩
  have hm : m = n := by
   by_cases e : m = n
   ·exact e
   ·refine absurd ?_ m1
    show (σ.now.set n 1).getD m 0 = 0
    rw [getD_set _ _ _ _ hl, if_neg e]
    exact m0
  subst hm
  have hj := (List.find?_range_eq_some.1 ht).2.2
  have : spFr σ m = [] := List.filter_eq_nil_iff.2 fun j hjm hj1 => by
   have := hj j (List.mem_range.1 hjm)
   simp only [Bool.and_eq_true, decide_eq_true_eq, beq_iff_eq, Bool.not_eq_true', Bool.and_eq_false_iff, beq_eq_false_iff_ne] at this hj1
   omega
  rw [this]; exact Nat.zero_lt_one
 ·intro m hm
  exact pgn m (h.live_reach hm)
end Go.Proofs.YtfoffehokhkohaaGreat
set_option maxRecDepth 20000
namespace Go.Proofs.YtfoffehokhkohaaGreat
open Go
theorem swap_perm (l : List Nat) (i j : Nat) (hi : i < l.length) (hj : j < l.length) : List.Perm ((l.set i (l.getD j 0)).set j (l.getD i 0)) l := by
 have h := @List.set_set_perm Nat l i j hi hj
 rw [List.getD_eq_getElem?_getD, List.getD_eq_getElem?_getD, List.getElem?_eq_getElem hi, List.getElem?_eq_getElem hj]
 exact h
theorem slices_Reverse32 (n sp ext : Nat) (a ad : Option Addr) (l : List Nat) (hn : n < 1000000000) (hl : l.length = n) :
  FnSpec Tryz.prog 60 [.arr ad (fun _ => n) (fun _ => sp) [.nat .u32 fun _ => l] true] [.sl 0 (fun _ => a) (fun _ => 0) (fun _ => n) (fun _ => ext)]
   (fun v hp => ∃ l' : List Nat, List.Perm l' l ∧ v = .tup [] ∧ hp = [.arr ad (fun _ => n) (fun _ => sp) [.nat .u32 fun _ => l'] true]) := by
 refine spec_cl mixed F60 rfl rfl rfl (fun Γ hΓ hb => ?_)
 cbv
 refine ⟨rf, ?_⟩
 cbv
 refine loopJ (α := Nat × List Nat) (fun (i, l') => i ≤ n ∧ List.Perm l' l) (fun (i, l') => ⟨28, [(0, .sl 0 (fun _ => a) (fun _ => 0) (fun _ => n) (fun _ => ext)), (2, .int .i64 fun _ => toI i), (3, .int .i64 fun _ => toI n - 1 - toI i)],
  [.arr ad (fun _ => n) (fun _ => sp) [.nat .u32 fun _ => l'] true], []⟩) (fun (i, l') => n - i) (0, l) ⟨Nat.zero_le _, .refl _⟩ (sub2 [0] 1 hb rfl rfl rfl rfl rfl rfl rfl rfl ?_) ?_
 ·cbv
  exact rf
 rintro ⟨i, l'⟩ hi
 have hi : i ≤ n ∧ List.Perm l' l := hi
 obtain ⟨hi, hp⟩ := hi
 cbv
 refine ⟨fun hc => ?_, fun hc => ?_⟩
 ·replace hc := of_decide_eq_true hc
  have hij : i < n - 1 - i := by exact om
  have hl' := hp.length_eq
  have hsw := swap_perm l' i (n - 1 - i) (by omega) (by omega)
  have e1 : (toI n - 1 - toI i).toNat = n - 1 - i := by simp only [toI]; omega
  obtain ⟨l2, hl2⟩ : ∃ x, x = (l'.set i (l'.getD (n - 1 - i) 0)).set (n - 1 - i) (l'.getD i 0) := ⟨_, rfl⟩
  rw [← hl2] at hsw
  cbv
  repeat ((first | refine VC.mk rf ?_ | refine ADD.mk rf ?_); cbv)
  refine ⟨(i + 1, l2), ⟨by omega, hsw.trans hp⟩, show n - (i + 1) < n - i by omega, sub2 [0] 1 hb rfl rfl rfl rfl rfl rfl rfl rfl ?_⟩
  cbv
  (repeat' first | with_reducible rfl | exact (show Ch.base _ = _ from rfl) | ((try simp only [toI, inI, List.length_nil] at *); omega) | exact trivial | refine ⟨?_, ?_⟩ | refine ⟨?_⟩ | intro _)
  rw [hl2, e1, toI_toNat, toI_toNat, Nat.zero_add, Nat.zero_add, toI_toNat]
 ·cbv
  exact Cl.same rfl ⟨l', hp, rfl, rfl⟩
set_option maxHeartbeats 1000000 in
theorem space_Drop (b db n : Nat) (σ : Sp) (q : SpQ) (pg : PG) (E : List Nat) (h : Inv σ pg (n :: E)) (hE : E.length ≤ 100000) :
  FnSpec Tryz.prog 19 (spL b db σ q) [.bp 0 0, .int .u32 fun _ => toI n]
   (fun v hp => ∃ σ', v = .int .i64 (fun _ => 0) ∧ hp = spL b db σ' q ∧ Inv σ' pg E ∧ Step 0 σ σ') := by
 have ha := h.ext n (List.mem_cons_self)
 have hb4 := h.ok.b4
 have hn := (asked_lt ha).2.1
 have hAsk := space_asked b db n σ q (by omega) h.ok
 rw [ha] at hAsk
 have hmeas : refsN σ pg (n :: E) ≤ 120000 := by
  unfold refsN
  have := h.kids_le
  rw [List.length_cons]
  omega
 refine spec_cl mixed F19 rfl rfl rfl (fun Γ hΓ hb => ?_)
 cbv
 refine cP hΓ (hAsk) [0, 1, 2, 3, 4] ?_
 rintro x hp' ⟨rfl, rfl⟩
 refine ⟨rfl, ?_⟩
 cbv
 refine .no rfl ?_
 cbv
 refine ⟨⟨rf, trivial⟩, fun b1 => ?_⟩
 cbv
 refine loopJ (α := Sp × List Nat × Nat × Nat × Nat × Nat × Option Addr × Option Addr)
  (fun (σ', L, len, N, sp, ext, _, _) => L.length = N ∧ len ≤ N ∧ len + ext ≤ N + sp ∧ Inv σ' pg (L.take len ++ E) ∧ Step 0 σ σ' ∧ refsN σ' pg (L.take len ++ E) ≤ 120000)
  (fun (σ', L, len, N, sp, ext, a, ad) => ⟨84, [(0, .bp 0 0), (5, .sl 5 (fun _ => a) (fun _ => 0) (fun _ => len) (fun _ => ext))], appL (spL b db σ' q) [.arr ad (fun _ => N) (fun _ => sp) [.nat .u32 fun _ => L] true], []⟩)
  (fun (σ', L, len, _, _, _, _, _) => refsN σ' pg (L.take len ++ E)) (σ, [n], 1, 1, 0, 0, some ⟨b1, 0, none⟩, some ⟨b1, 0, none⟩)
  ⟨rfl, Nat.le_refl _, Nat.le_refl _, h, Step.refl σ, hmeas⟩ (sub2 [0, 1, 2, 3, 4, 5] 5 hb rfl rfl rfl rfl rfl rfl rfl rfl ?_) ?_
 ·cbv
  (repeat' first | with_reducible rfl | exact (show Ch.base _ = _ from rfl) | ((try simp only [toI, inI, List.length_nil] at *); omega) | exact trivial | refine ⟨?_, ?_⟩ | refine ⟨?_⟩ | intro _)
  rw [toI_toNat]
 rintro ⟨σ', L, len, N, sp, ext, a, ad⟩ hJ
 have hJ : L.length = N ∧ len ≤ N ∧ len + ext ≤ N + sp ∧ Inv σ' pg (L.take len ++ E) ∧ Step 0 σ σ' ∧ refsN σ' pg (L.take len ++ E) ≤ 120000 := hJ
 obtain ⟨hL, hlen, hext, hI, hS, hm⟩ := hJ
 cbv
 refine ⟨fun hc => ?_, fun hc => ?_⟩
 ·replace hc := of_decide_eq_true hc
  have hc : 0 < len := by exact om
  obtain ⟨l1, hl1⟩ : ∃ l1, len = l1 + 1 := ⟨len - 1, by omega⟩
  obtain ⟨m, hmL⟩ : ∃ m, L.getD (l1) 0 = m := ⟨_, rfl⟩
  have hpm : List.Perm (L.take len ++ E) (m :: (L.take (l1) ++ E)) := by
   have e : L.take len = L.take (l1) ++ [m] := by
    have h1 := List.take_add_one (l := L) (i := l1)
    rw [List.getElem?_eq_getElem (by omega)] at h1
    rw [hl1, h1, ← hmL, List.getD_eq_getElem?_getD, List.getElem?_eq_getElem (by omega)]; rfl
   rw [e, List.append_assoc]
   exact List.perm_middle
  have hI' := hI.perm hpm
  have hrn : refsN σ' pg (L.take len ++ E) = refsN σ' pg (m :: (L.take (l1) ++ E)) := by unfold refsN; rw [hpm.length_eq]
  have hlenb : len ≤ 120000 := by unfold refsN at hm; rw [List.length_append, List.length_take] at hm; omega
  have hml := hI'.live_ext List.mem_cons_self
  have hma := live_asked hml
  have hmb := (asked_lt hma).2.1
  have hmb4 := hI.ok.b4
  have e1 : (toI len - 1).toNat = l1 := by simp only [toI]; omega
  have hGet := counts_Get q.nb σ'.size σ'.blocks σ'.now m (by omega) hI.ok.now
  have hSub := counts_Sub q.nb σ'.size σ'.blocks σ'.now m (by omega) hI.ok.now
  cbv
  repeat ((first | refine VC.mk rf ?_ | refine ADD.mk rf ?_); cbv)
  intro a5
  cbv
  repeat ((first | refine VC.mk rf ?_ | refine ADD.mk rf ?_); cbv)
  refine callP_eq (args' := [.pt fun _ => ⟨q.nb, 0, none⟩, .int .u32 fun _ => toI m]) (hp' := appL (spL b db σ' q) [.arr ad (fun _ => N) (fun _ => sp) [.nat .u32 fun _ => L] true]) [.one 0, .one 1, .one 2, .one 3, .one 4, .one 5] 5 hb rfl rfl (nodup_of rfl) rfl rfl rfl ?_ ?_
  ·cbv
   (repeat' first | with_reducible rfl | exact (show Ch.base _ = _ from rfl) | ((try simp only [toI, inI, List.length_nil] at *); omega) | exact trivial | refine ⟨?_, ?_⟩ | refine ⟨?_⟩ | intro _)
   rw [e1, Nat.zero_add, hmL]
  refine cP hΓ (hGet) [3] ?_
  rintro x hp' ⟨rfl, rfl⟩
  refine ⟨rfl, ?_⟩
  cbv
  refine ⟨fun h1 => ?_, fun h1 => ?_⟩
  ·have h1' : σ'.now.getD m 0 ≠ 1 := by
    intro h2
    rw [h2] at h1
    exact absurd h1 (by decide)
   obtain ⟨s1, s2, s3⟩ := hI'.sub h1'
   have s4 := hI'.sub_n h1'
   rw [s1] at hSub
   generalize σ'.now.set m (σ'.now.getD m 0 - 1) = c2 at hSub s2 s3 s4
   cbv
   refine callP_eq (args' := [.pt fun _ => ⟨q.nb, 0, none⟩, .int .u32 fun _ => toI m]) (hp' := appL (spL b db σ' q) [.arr ad (fun _ => N) (fun _ => sp) [.nat .u32 fun _ => L] true]) [.one 0, .one 1, .one 2, .one 3, .one 4, .one 5] 5 hb rfl rfl (nodup_of rfl) rfl rfl rfl ?_ ?_
   ·cbv
    (repeat' first | with_reducible rfl | exact (show Ch.base _ = _ from rfl) | ((try simp only [toI, inI, List.length_nil] at *); omega) | exact trivial | refine ⟨?_, ?_⟩ | refine ⟨?_⟩ | intro _)
    rw [e1, Nat.zero_add, hmL]
   refine callP_by hΓ hSub [3] (by simp) ⟨⟨_, rfl, .inl rfl⟩, trivial⟩ rfl ?_
   rintro x hp' ⟨k, rfl, rfl⟩
   refine ⟨rfl, ?_⟩
   cbv
   refine .no (neF rfl) ?_
   cbv
   refine ⟨(spNow σ' c2, L, l1, N, sp, ext + 1, a5, ad), ⟨hL, by omega, by omega, s2, hS.trans s3, by omega⟩, show refsN (spNow σ' c2) pg (L.take (l1) ++ E) < refsN σ' pg (L.take len ++ E) by omega, sub2 [0, 1, 2, 3, 4, 5] 5 hb rfl rfl rfl rfl rfl rfl rfl rfl ?_⟩
   cbv
   exact rf
  ·have h1' : σ'.now.getD m 0 = 1 := by
    have h2 := h1
    simp only [toI, bne_eq_false_iff_eq] at h2
    omega
   obtain ⟨s1, s2, s3⟩ := hI'.last h1'
   have s4 := hI'.last_n
   rw [s1] at hSub
   have hGt := space_Get b db m σ' q (pg m) hI.ok hma (live_now hml) (hI.has m hml)
   have hkl := (hI.has m hml).1.k
   generalize hkk : (pg m).kids = kk at hGt s2 s4 hkl
   generalize (pg m).tag = tg at hGt
   generalize (pg m).data = dt at hGt
   generalize σ'.now.set m 0 = c2 at hSub s2 s3 s4
   cbv
   refine callP_eq (args' := [.bp 0 0, .int .u32 fun _ => toI m]) (hp' := appL (spL b db σ' q) [.arr ad (fun _ => N) (fun _ => sp) [.nat .u32 fun _ => L] true]) [.one 0, .one 1, .one 2, .one 3, .one 4, .one 5] 5 hb rfl rfl (nodup_of rfl) rfl rfl rfl ?_ ?_
   ·cbv
    (repeat' first | with_reducible rfl | exact (show Ch.base _ = _ from rfl) | ((try simp only [toI, inI, List.length_nil] at *); omega) | exact trivial | refine ⟨?_, ?_⟩ | refine ⟨?_⟩ | intro _)
    rw [e1, Nat.zero_add, hmL]
   refine callP_by hΓ hGt [0, 1, 2, 3, 4] (by simp) ⟨⟨_, rfl, .inl rfl⟩, ⟨_, rfl, .inl rfl⟩, ⟨_, rfl, .inl rfl⟩, ⟨_, rfl, .inl rfl⟩, ⟨_, rfl, .inl rfl⟩, trivial⟩ rfl ?_
   rintro x hp' ⟨a6, ad6, e6, rfl, rfl⟩
   refine ⟨rfl, ?_⟩
   cbv
   intro b7
   cbv
   refine .no (neF rfl) ?_
   cbv
   refine callP_eq (args' := [.pt fun _ => ⟨q.nb, 0, none⟩, .int .u32 fun _ => toI m]) (hp' := appL (spL b db σ' q) [.arr ad (fun _ => N) (fun _ => sp) [.nat .u32 fun _ => L] true, .arr ad6 (fun _ => kk.length) (fun _ => e6) [.nat .u32 fun _ => kk] true, .box b7 43 [.int .u8 fun _ => toI tg, .sl 6 (fun _ => a6) (fun _ => 0) (fun _ => kk.length) (fun _ => e6), .str fun _ => dt] true]) [.one 0, .one 1, .one 2, .one 3, .one 4, .one 5, .one 6, .one 7] 5 hb rfl rfl (nodup_of rfl) rfl rfl rfl ?_ ?_
   ·cbv
    (repeat' first | with_reducible rfl | exact (show Ch.base _ = _ from rfl) | ((try simp only [toI, inI, List.length_nil] at *); omega) | exact trivial | refine ⟨?_, ?_⟩ | refine ⟨?_⟩ | intro _)
    rw [e1, Nat.zero_add, hmL]
   refine callP_by hΓ hSub [3] (by simp) ⟨⟨_, rfl, .inl rfl⟩, trivial⟩ rfl ?_
   rintro x hp' ⟨k, rfl, rfl⟩
   refine ⟨rfl, ?_⟩
   cbv
   refine .no (neF rfl) ?_
   cbv
   refine callP_by hΓ (slices_Reverse32 kk.length e6 e6 a6 ad6 kk (by omega) rfl) [6] (by simp) ⟨⟨_, rfl, .inl rfl⟩, trivial⟩ rfl ?_
   rintro x hp' ⟨kk', hkp, rfl, rfl⟩
   refine ⟨rfl, ?_⟩
   cbv
   repeat ((first | refine VC.mk rf ?_ | refine ADD.mk rf ?_); cbv)
   have hkl' := hkp.length_eq
   refine .any (VC.mk rf fun a7 a8 e9 hx => ?_)
   cbv
   have hpk : List.Perm (kk ++ (L.take l1 ++ E)) ((L.take l1 ++ kk').take (l1 + kk.length) ++ E) := by
    have e3 : (L.take l1 ++ kk').take (l1 + kk.length) = L.take l1 ++ kk' := List.take_of_length_le (by rw [List.length_append, List.length_take]; omega)
    rw [e3, List.append_assoc]
    refine (List.perm_append_comm_assoc _ _ _).trans ?_
    exact List.Perm.append_left _ (List.Perm.append_right _ hkp.symm)
   have s5 : refsN (spNow σ' c2) pg ((L.take l1 ++ kk').take (l1 + kk.length) ++ E) + 1 = refsN σ' pg (m :: (L.take l1 ++ E)) := by
    rw [← s4]; unfold refsN; rw [hpk.length_eq]
   obtain ⟨L2, hL2⟩ : ∃ x, x = L.take l1 ++ kk' := ⟨_, rfl⟩
   obtain ⟨l2, hl2⟩ : ∃ x, x = l1 + kk.length := ⟨_, rfl⟩
   rw [← hL2, ← hl2] at hpk s5
   have hL2l : L2.length = l2 := by rw [hL2, List.length_append, List.length_take]; omega
   refine ⟨(spNow σ' c2, L2, l2, l2, e9, e9, a8, a7), ⟨hL2l, Nat.le_refl _, Nat.le_refl _, s2.perm hpk, hS.trans s3, by omega⟩, show refsN (spNow σ' c2) pg (L2.take l2 ++ E) < refsN σ' pg (L.take len ++ E) by omega, sub2 [0, 1, 2, 3, 4, 8] 5 hb rfl rfl rfl rfl rfl rfl rfl rfl ?_⟩
   cbv
   (repeat' first | with_reducible rfl | exact (show Ch.base _ = _ from rfl) | ((try simp only [toI, inI, List.length_nil] at *); omega) | exact trivial | refine ⟨?_, ?_⟩ | refine ⟨?_⟩ | intro _)
   have e4 : (toI len - 1).toNat - (toI 0).toNat = l1 := by simp only [toI]; omega
   have e5 : 0 + (toI 0).toNat = 0 := rfl
   rw [e4, e5, List.drop_zero, List.drop_zero, List.take_of_length_le (l := kk') (by omega)]
   exact hL2.symm
 ·replace hc := of_decide_eq_false hc
  have hc : len = 0 := by exact om
  subst hc
  cbv
  refine Cl.tk 5 hb rfl rfl rfl ⟨σ', rfl, rfl, hI, hS⟩
end Go.Proofs.YtfoffehokhkohaaGreat
set_option maxRecDepth 20000
namespace Go.Proofs.YtfoffehokhkohaaGreat
open Go
theorem counts_Take0 (b size blocks i0 : Nat) (c : List Nat) (hc : CountsOk c) (ht0 : cTake c [] = some i0) :
  FnSpec Tryz.prog 87 [.res fun _ => CountsR b size blocks c] [.pt fun _ => ⟨b, 0, none⟩, .nilp]
   (fun v hp => v = .tup [.int .u32 fun _ => toI i0, .int .i64 fun _ => 0] ∧ hp = [.res fun _ => CountsR b size blocks (c.set i0 1)]) := by
 have hl := hc.len
 refine spec_by mixed F87 rfl rfl rfl (fun (q : Nat × Option Addr × Option Addr × Nat) => [.gone none 1, .box b q.1 [.int .i64 fun _ => toI size, .int .i64 fun _ => toI blocks, .sl 2 (fun _ => q.2.1) (fun _ => 0) (fun _ => c.length) (fun _ => q.2.2.2)] true,
  .arr q.2.2.1 (fun _ => c.length) (fun _ => q.2.2.2) [.nat .u16 fun _ => c] true]) (fun _ => [.bp 1 0, .nilp]) (fun q => rfl) (fun q => rfl) (fun Γ w h => open_pack (k := 0) h rfl) ?_
 rintro ⟨ty, a, ad, ext⟩ Γ hΓ hb
 cbv
 refine loopJ (fun (i : Nat) => i ≤ c.length ∧ ∀ j, j < i → (c.getD j 0 == 0 && ([] : List Nat).getD j 0 == 0) = false) (fun i => ⟨53, [(0, .bp 1 0), (1, .nilp), (28, .sl 2 (fun _ => a) (fun _ => 0) (fun _ => c.length) (fun _ => ext)), (29, .int .i64 fun _ => toI c.length), (30, .int .i64 fun _ => toI i)],
  [.gone none 1, .box b ty [.int .i64 fun _ => toI size, .int .i64 fun _ => toI blocks, .sl 2 (fun _ => a) (fun _ => 0) (fun _ => c.length) (fun _ => ext)] true, .arr ad (fun _ => c.length) (fun _ => ext) [.nat .u16 fun _ => c] true], []⟩) (fun i => c.length - i) 0 ⟨Nat.zero_le _, fun j hj => absurd hj (Nat.not_lt_zero _)⟩ (sub2 [0, 1, 2] 1 hb rfl rfl rfl rfl rfl rfl rfl rfl ?_) ?_
 ·cbv
  exact rf
 ·rintro i ⟨hi, hno⟩
  cbv
  refine ⟨fun h => ?_, fun h => ?_⟩
  ·replace h := toI_lt h
   cbv
   repeat ((first | refine VC.mk rf ?_ | refine ADD.mk rf ?_); cbv)
   have ew : wr .u32 (toI i) = toI i := wr_u32 om om
   have e0 : 0 + (toI i).toNat = i := by rw [toI_toNat, Nat.zero_add]
   refine ⟨fun h1 => ?_, fun h1 => ?_⟩
   ·have h1 : toI (c.getD (0 + (toI i).toNat) 0) = 0 := by simpa using h1
    rw [e0] at h1
    have h1 : c.getD i 0 = 0 := by exact om
    have ht : cTake c [] = some i := find_range h hno (by rw [h1]; rfl)
    have hii : i = i0 := by rw [ht] at ht0; exact Option.some.inj ht0
    subst hii
    cbv
    refine callP_eq (args' := [.nilp, .int .u32 fun _ => toI i]) (hp' := [.gone none 1, .box b ty [.int .i64 fun _ => toI size, .int .i64 fun _ => toI blocks, .sl 2 (fun _ => a) (fun _ => 0) (fun _ => c.length) (fun _ => ext)] true, .arr ad (fun _ => c.length) (fun _ => ext) [.nat .u16 fun _ => c] true]) [.one 0, .one 1, .one 2] 1 hb rfl rfl (nodup_of rfl) rfl rfl rfl ?_ ?_
    ·cbv
     exact rf
    refine cP hΓ (counts_Get0 i) [] ?_
    rintro x hp' ⟨rfl, rfl⟩
    refine ⟨rfl, ?_⟩
    cbv
    refine .yes rfl ?_
    cbv
    repeat ((first | refine VC.mk rf ?_ | refine ADD.mk rf ?_); cbv)
    refine Cl.by (v' := .tup [.int .u32 fun _ => toI i, .int .i64 fun _ => 0]) (hp' := [.res fun _ => CountsR b size blocks (c.set i 1)]) [.pack 0 [1, 2]] 1 hb rfl rfl (nodup_of rfl) rfl
      ⟨⟨_, _, (ty, a, ad, ext), rfl, rfl, rfl, rfl, ?_, rfl⟩, trivial⟩ rfl ?_ ?_
    ·generalize hcs : c.set i 1 = cs
     have hcl : cs.length = c.length := by rw [← hcs]; simp
     cbv
     refine ⟨⟨⟨rfl, rfl⟩, ⟨rfl⟩, ⟨rfl⟩, ⟨rfl, hcl.symm, rfl, fun _ => rfl⟩, trivial⟩, ⟨⟨rfl, hcl.symm, rfl⟩, ⟨?_⟩, trivial⟩, trivial⟩
     show c.set (0 + (toI i).toNat) 1 = cs
     rw [e0, hcs]
    ·cbv
     exact ⟨⟨ew⟩, ⟨rfl⟩, trivial⟩
    ·exact ⟨rfl, rfl⟩
   ·have h1 : ¬ toI (c.getD (0 + (toI i).toNat) 0) = 0 := by simpa using h1
    rw [e0] at h1
    have h1 : c.getD i 0 ≠ 0 := by exact om
    cbv
    refine .mk rf ?_
    cbv
    refine ⟨i + 1, ⟨h, fun j hj => ?_⟩, by omega, sub2 [0, 1, 2] 1 hb rfl rfl rfl rfl rfl rfl rfl rfl ?_⟩
    ·by_cases e : j = i
     ·subst e; rw [Bool.and_eq_false_iff]; exact .inl (beq_false_of_ne h1)
     ·exact hno j (by omega)
    cbv
    exact rf
  ·replace h := toI_nlt h
   have : i = c.length := by omega
   subst this
   have ht : cTake c [] = none := find_range_none hno
   rw [ht] at ht0; cases ht0
theorem cPages_length (size : Nat) (c : List Nat) (blocks : Nat) (hc : c.length = blocks) (h1 : 128 ≤ size) (h3 : size % 64 = 0) : (cPages size c).length = superN size blocks := by
 unfold cPages superN
 rw [List.length_map, List.length_range, hc]
 obtain ⟨p, hp⟩ : ∃ p, size - 16 = 2 * p := ⟨(size - 16) / 2, by omega⟩
 have hp0 : 0 < p := by omega
 rw [hp, Nat.mul_div_cancel_left _ (by omega)]
 have e : 2 * blocks + 2 * p - 1 = 2 * (blocks + p - 1) + 1 := by omega
 rw [e, ← Nat.div_div_eq_div_mul]
 congr 1
 omega
theorem cPages_le (size : Nat) (c : List Nat) : ∀ p ∈ cPages size c, p.length ≤ size - 16 := by
 intro p hp
 unfold cPages at hp
 obtain ⟨k, _, rfl⟩ := List.mem_map.1 hp
 unfold cBytes
 rw [flatMap_leB_length]
 have : (subl c (k * ((size - 16) / 2)) (min ((size - 16) / 2) (c.length - k * ((size - 16) / 2)))).length ≤ (size - 16) / 2 := by
  unfold subl
  rw [List.length_take]
  omega
 omega
def cWrites (size gen : Nat) (pages : List Nat) (c : List Nat) : List (Nat × Bytes) := (List.range (cPages size c).length).map fun i => (pages.getD i 0, frameB size 2 gen ((cPages size c).getD i []))
theorem cWrites_lt (size gen blocks : Nat) (pages c : List Nat) (hp : ∀ n ∈ pages, n < blocks) (hl : (cPages size c).length = pages.length) : ∀ w ∈ cWrites size gen pages c, w.1 < blocks := by
 intro w hw
 obtain ⟨i, hi, rfl⟩ := List.mem_map.1 hw
 have hi := List.mem_range.1 hi
 show pages.getD i 0 < blocks
 rw [List.getD_eq_getElem?_getD, List.getElem?_eq_getElem (by omega)]
 exact hp _ (List.getElem_mem _)
theorem space_commit (db nb size blocks gen root slot ext sp : Nat) (a ad : Option Addr) (pages c : List Nat) (dur : List Bytes) (pend : List (Nat × Bytes)) (h : SuperOk size blocks gen root pages) (hc : CountsOk c) (hcl : c.length = blocks)
  (hd : dur.length = blocks) (hp : pend.length < 900000000) (hpn : ∀ p ∈ pend, p.1 < blocks) (hs : slot < blocks) :
  FnSpec Tryz.prog 69 [.res fun _ => DevR db size blocks dur pend, .res fun _ => CountsR nb size blocks c, .arr ad (fun _ => pages.length) (fun _ => sp) [.nat .u32 fun _ => pages] false]
   [.pt fun _ => ⟨db, 0, none⟩, .pt fun _ => ⟨nb, 0, none⟩, .agg [.int .u64 fun _ => toI gen, .int .i64 fun _ => toI size, .int .i64 fun _ => toI blocks, .int .u32 fun _ => toI root, .sl 2 (fun _ => a) (fun _ => 0) (fun _ => pages.length) (fun _ => ext)], .int .i64 fun _ => toI slot]
   (fun v hp => v = .int .i64 (fun _ => 0) ∧ hp = [.res fun _ => DevR db size blocks (flushD (flushD dur (pend ++ cWrites size gen pages c)) [(slot, superB size blocks gen root pages)]) [], .res fun _ => CountsR nb size blocks c, .arr ad (fun _ => pages.length) (fun _ => sp) [.nat .u32 fun _ => pages] false]) := by
 have hPut := super_Put size blocks gen root ext sp a ad pages h
 have hPg := counts_Pages nb size blocks c ⟨h.geo.h1, h.geo.h2, h.geo.h3, by omega, by omega⟩ hc (by have := h.geo.h4; omega)
 have hPl := cPages_length size c blocks hcl h.geo.h1 h.geo.h3
 have hPe := cPages_le size c
 have hWl := cWrites_lt size gen blocks pages c (fun n hn => (h.page n hn).2.1) (by rw [hPl, h.len])
 have hsl : (superB size blocks gen root pages).length = size := by
  unfold superB
  exact frameB_length size 1 gen _ (by rw [superD_length]; exact h.fits) (by have := h.geo.h1; omega)
 obtain ⟨geo, gen1, gen2, rt, hlen, page, nodup, fits⟩ := h
 have g1 := geo.h1
 have g2 := geo.h2
 have g5 := geo.h5
 rw [← hlen] at hPl
 have hW : cWrites size gen pages c = (List.range (cPages size c).length).map fun i => (pages.getD i 0, frameB size 2 gen ((cPages size c).getD i [])) := rfl
 generalize cWrites size gen pages c = W at hW hWl
 generalize cPages size c = P at hPg hPl hPe hW
 generalize superB size blocks gen root pages = SB at hPut hsl
 refine spec_cl mixed F69 rfl rfl rfl (fun Γ hΓ hb => ?_)
 cbv
 intro b3
 cbv
 refine callP_by hΓ hPg [1] (by simp) ⟨⟨_, rfl, .inl rfl⟩, trivial⟩ rfl ?_
 rintro x hp' ⟨a4, ad4, e4, rfl, rfl⟩
 refine ⟨rfl, ?_⟩
 cbv
 obtain ⟨n, hn⟩ : ∃ n, n = P.length := ⟨_, rfl⟩
 refine loopJ (α := Nat × List (Nat × Bytes)) (fun (i, w) => i ≤ P.length ∧ w = W.take i) (fun (i, w) => ⟨61, [(0, .pt fun _ => ⟨db, 0, none⟩), (3, .int .i64 fun _ => toI slot), (6, .bp 3 0), (17, .sl 4 (fun _ => a4) (fun _ => 0) (fun _ => P.length) (fun _ => e4)), (18, .int .i64 fun _ => toI P.length), (19, .int .i64 fun _ => toI i)],
  [.res fun _ => DevR db size blocks dur (pend ++ w), .res fun _ => CountsR nb size blocks c, .arr ad (fun _ => pages.length) (fun _ => sp) [.nat .u32 fun _ => pages] false,
   .box b3 78 [.int .u64 fun _ => toI gen, .int .i64 fun _ => toI size, .int .i64 fun _ => toI blocks, .int .u32 fun _ => toI root, .sl 2 (fun _ => a) (fun _ => 0) (fun _ => pages.length) (fun _ => ext)] true, .arr ad4 (fun _ => P.length) (fun _ => e4) [.str fun _ => P] true], []⟩)
  (fun (i, _) => P.length - i) (0, []) ⟨Nat.zero_le _, rfl⟩ (sub2 [0, 1, 2, 3, 4] 3 hb rfl rfl rfl rfl rfl rfl rfl rfl ?_) ?_
 ·cbv
  (repeat' first | with_reducible rfl | exact (show Ch.base _ = _ from rfl) | ((try simp only [toI, inI, List.length_nil] at *); omega) | exact trivial | refine ⟨?_, ?_⟩ | refine ⟨?_⟩ | intro _)
  rw [List.append_nil]
 rintro ⟨i, w⟩ hJ
 have hJ : i ≤ P.length ∧ w = W.take i := hJ
 obtain ⟨hi, hw⟩ := hJ
 cbv
 refine ⟨fun hc => ?_, fun hc => ?_⟩
 ·replace hc := toI_lt hc
  cbv
  repeat ((first | refine VC.mk rf ?_ | refine ADD.mk rf ?_); cbv)
  obtain ⟨pn, hpn'⟩ : ∃ x, pages.getD i 0 = x := ⟨_, rfl⟩
  obtain ⟨pb, hpb⟩ : ∃ x, P.getD i [] = x := ⟨_, rfl⟩
  have hpm : pn ∈ pages := by rw [← hpn', List.getD_eq_getElem?_getD, List.getElem?_eq_getElem (by omega)]; exact List.getElem_mem _
  have hpbl : pb.length ≤ size - 16 := by
   refine hPe pb ?_
   rw [← hpb, List.getD_eq_getElem?_getD, List.getElem?_eq_getElem (by omega)]; exact List.getElem_mem _
  obtain ⟨hp2, hp3, _⟩ := page pn hpm
  have hwl : w.length ≤ 4096 := by
   rw [hw, List.length_take]; have := hi; have : P.length ≤ size := by omega
   omega
  have hWr := space_write db size blocks pn 2 gen dur (pend ++ w) pb geo hp3 (by rw [List.length_append]; omega) (by omega) gen2 hpbl
  have hnx : W.take (i + 1) = w ++ [(pn, frameB size 2 gen pb)] := by
   have hWi : W[i]? = some (pn, frameB size 2 gen pb) := by
    rw [hW, List.getElem?_map, List.getElem?_range hc, ← hpn', ← hpb]; rfl
   rw [List.take_add_one, hWi, hw]; rfl
  refine callP_eq (args' := [.pt fun _ => ⟨db, 0, none⟩, .int .u32 fun _ => toI pn, .agg [.int .u8 fun _ => toI 2, .int .u64 fun _ => toI gen, .str fun _ => pb]])
   (hp' := [.res fun _ => DevR db size blocks dur (pend ++ w), .res fun _ => CountsR nb size blocks c, .arr ad (fun _ => pages.length) (fun _ => sp) [.nat .u32 fun _ => pages] false,
   .box b3 78 [.int .u64 fun _ => toI gen, .int .i64 fun _ => toI size, .int .i64 fun _ => toI blocks, .int .u32 fun _ => toI root, .sl 2 (fun _ => a) (fun _ => 0) (fun _ => pages.length) (fun _ => ext)] true, .arr ad4 (fun _ => P.length) (fun _ => e4) [.str fun _ => P] true]) [.one 0, .one 1, .one 2, .one 3, .one 4] 3 hb rfl rfl (nodup_of rfl) rfl rfl rfl ?_ ?_
  ·cbv
   (repeat' first | with_reducible rfl | exact (show Ch.base _ = _ from rfl) | ((try simp only [toI, inI, List.length_nil] at *); omega) | exact trivial | refine ⟨?_, ?_⟩ | refine ⟨?_⟩ | intro _)
   ·rw [toI_toNat, Nat.zero_add, hpn']
   ·rw [toI_toNat, Nat.zero_add, hpb]
  generalize frameB size 2 gen pb = fb at hWr hnx
  obtain ⟨w2, hw2⟩ : ∃ x, x = w ++ [(pn, fb)] := ⟨_, rfl⟩
  rw [List.append_assoc, ← hw2] at hWr
  rw [← hw2] at hnx
  refine cP hΓ (hWr) [0] ?_
  rintro x hp' ⟨rfl, rfl⟩
  refine ⟨rfl, ?_⟩
  cbv
  refine .no (neF rfl) ?_
  cbv
  refine .mk rf ?_
  cbv
  refine ⟨(i + 1, w2), ⟨by omega, hnx.symm⟩, show P.length - (i + 1) < P.length - i by omega, sub2 [0, 1, 2, 3, 4] 3 hb rfl rfl rfl rfl rfl rfl rfl rfl ?_⟩
  cbv
  exact rf
 ·replace hc := toI_nlt hc
  have : i = P.length := by omega
  subst this
  have hw : w = W := by rw [hw, hW, List.take_of_length_le (by simp)]
  cbv
  have hWll : W.length = P.length := by rw [hW]; simp
  have hF := dev_Flush db size blocks dur (pend ++ W) g5 hd (by rw [List.length_append, hWll]; omega) (fun p hp => by
   rcases List.mem_append.1 hp with hp | hp
   ·exact hpn p hp
   ·exact hWl p hp)
  have hd2 : (flushD dur (pend ++ W)).length = blocks := by rw [flushD_length, hd]
  rw [hw]
  generalize flushD dur (pend ++ W) = dur2 at hF hd2
  refine cP hΓ (hF) [0] ?_
  rintro x hp' ⟨rfl, rfl⟩
  refine ⟨rfl, ?_⟩
  cbv
  refine .no (neF rfl) ?_
  cbv
  refine cP hΓ (hPut) [2] ?_
  rintro x hp' ⟨rfl, rfl⟩
  refine ⟨rfl, ?_⟩
  cbv
  refine .no (neF rfl) ?_
  cbv
  have hDW := dev_Write db size blocks slot dur2 [] SB hs g5 hsl (by simp)
  have hF2 := dev_Flush db size blocks dur2 [(slot, SB)] g5 hd2 (by simp) (by simpa using hs)
  rw [List.nil_append] at hDW
  generalize flushD dur2 [(slot, SB)] = dur3 at hF2
  refine cP hΓ (hDW) [0] ?_
  rintro x hp' ⟨rfl, rfl⟩
  refine ⟨rfl, ?_⟩
  cbv
  refine .no (neF rfl) ?_
  cbv
  refine cP hΓ (hF2) [0] ?_
  rintro x hp' ⟨rfl, rfl⟩
  refine ⟨rfl, ?_⟩
  cbv
  exact Cl.tk 3 hb rfl rfl rfl ⟨rfl, rfl⟩
end Go.Proofs.YtfoffehokhkohaaGreat
