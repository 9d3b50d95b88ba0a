/- Part 8 of what is proved in the last text (packed by a program of mine). -/
import Derived.Test.YtfoffehokhkohaaGreatK07
set_option linter.all false
namespace Go.Proofs.YtfoffehokhkohaaGreat
open Go
def Γ0 (w : World) : Ctx := ⟨default, w, fun _ => True, []⟩
structure Holds (l : List Ch) (w : World) (S : Nat → Prop) (Sf : Nat → Nat → Prop) : Prop where
 own : exclL l = true
 ch : ∀ (i : Nat) (c : Ch), l[i]? = some c → c.holds (Γ0 w) (bases l) w (Sf i)
 dj : ∀ i j x, Sf i x → Sf j x → i = j
 dom : ∀ i x, Sf i x → x < w.heap.size
 out : ∀ i x, Sf i x → i < l.length
 all : ∀ x, S x ↔ ∃ i, Sf i x
theorem holds_ctx {Γ Γ' : Ctx} {bs : List Base} {w w' : World} {c : Ch} {S : Nat → Prop} (hx : c.excl = true) (h : c.holds Γ bs w S) (hsz : w.heap.size ≤ w'.heap.size) (hS : ∀ x, S x → w'.heap[x]? = w.heap[x]?) : c.holds Γ' bs w' S := by
 cases c with
 | box b ty l ex =>
  simp only [Ch.excl] at hx
  subst hx
  obtain ⟨h1, h2, h3, h4⟩ := h
  exact ⟨by rw [hS b ((h4 b).2 rfl)]; exact h1, h2, h3, h4⟩
 | arr a n sp cs ex =>
  simp only [Ch.excl] at hx
  subst hx
  obtain ⟨h1, h2⟩ := h
  refine ⟨h1, ?_⟩
  cases a with
  | none => exact h2
  | some ad =>
   obtain ⟨a1, a2, a3, a4, a5⟩ := h2
   have hb := hS _ ((a4 _).2 rfl)
   exact ⟨a1, by omega, a3.of_block hb, a4, a5.of_block hb⟩
 | res r => exact (r ()).loc h hS
 | gone a k => exact h
theorem exclL_at : ∀ {l : List Ch}, exclL l = true → ∀ (j : Nat) (c : Ch), l[j]? = some c → c.excl = true
 | [], _, j, c, h => by simp at h
 | d :: l, hl, j, c, hj => by
  simp only [exclL] at hl
  split at hl
  ·rename_i hd
   cases j with
   | zero => simp at hj; subst hj; exact hd
   | succ j => exact exclL_at hl j c (by simpa using hj)
  ·cases hl
def Pack {α : Type} (l : α → List Ch) : RP where
 R w S := ∃ q Sf, Holds (l q) w S Sf
 loc := by
  rintro w w' S ⟨q, Sf, h⟩ hS
  have hall : ∀ i x, Sf i x → w'.heap[x]? = w.heap[x]? := fun i x hx => hS x ((h.all x).2 ⟨i, hx⟩)
  refine ⟨q, Sf, h.own, fun i c hc => ?_, h.dj, fun i x hx => ?_, h.out, h.all⟩
  ·have hx := exclL_at h.own i c hc
   have hh := h.ch i c hc
   cases c with
   | box b ty l ex =>
    simp only [Ch.excl] at hx
    subst hx
    obtain ⟨h1, h2, h3, h4⟩ := hh
    exact ⟨by rw [hall i b ((h4 b).2 rfl)]; exact h1, h2, h3, h4⟩
   | arr a n sp cs ex =>
    simp only [Ch.excl] at hx
    subst hx
    obtain ⟨h1, h2⟩ := hh
    refine ⟨h1, ?_⟩
    cases a with
    | none => exact h2
    | some ad =>
     obtain ⟨a1, a2, a3, a4, a5⟩ := h2
     have hb := hall i _ ((a4 _).2 rfl)
     refine ⟨a1, ?_, a3.of_block hb, a4, a5.of_block hb⟩
     have : w'.heap[ad.block]?.isSome = true := by rw [hb]; simp [a2]
     simpa using this
   | res r => exact (r ()).loc hh (hall i)
   | gone a k => exact hh
  ·have hx' := h.dom i x hx
   have : w'.heap[x]?.isSome = true := by rw [hall i x hx]; simp [hx']
   simpa using this
 dom := by
  rintro w S ⟨q, Sf, h⟩ x hx
  obtain ⟨i, hi⟩ := (h.all x).1 hx
  exact h.dom i x hi
theorem open_pack {Γ : Ctx} {α : Type} {l : α → List Ch} {hp : List Ch} {k : Nat} {w : World} (h : DenH Γ hp w) (hk : nth hp k = some (.res fun _ => Pack l)) :
  ∃ q, DenH Γ (hp.set k (.gone none 1) ++ renC (upTo hp.length (l q).length) (l q)) w := by
 rw [nth_eq] at hk
 obtain ⟨S, d⟩ := h
 obtain ⟨q, Sf, hh⟩ := d.ch k _ hk
 refine ⟨q, ?_⟩
 have hkl : k < hp.length := (List.getElem?_eq_some_iff.1 hk).1
 have hb : bases (hp.set k (.gone none 1)) = bases hp := bases_set hk rfl
 have hren : RenOk (upTo hp.length (l q).length) (l q).length (bases (l q)) (bases (hp.set k (.gone none 1) ++ renC (upTo hp.length (l q).length) (l q))) := by
  intro i hi
  have e : nthD (upTo hp.length (l q).length) i = hp.length + i := by simp [nthD, nth_eq, upTo_get _ _ _ hi]
  rw [e]
  refine ⟨by simp [renC_map]; omega, ?_⟩
  rw [bases_append, hb, List.getElem?_append_right (by simp)]
  simp [bases, renC_map, List.map_map, Function.comp_def, ren_base]
 refine ⟨fun j x => if j < hp.length then (j ≠ k ∧ S j x) else Sf (j - hp.length) x, d.fr, ?_, ?_, ?_, ?_, ?_, ?_⟩
 ·intro j c hj
  by_cases hjl : j < hp.length
  ·rw [List.getElem?_append_left (by simpa using hjl)] at hj
   by_cases hjk : j = k
   ·subst hjk
    rw [List.getElem?_set_self hkl] at hj
    cases hj
    intro x hx
    simp [hjl] at hx
   ·rw [List.getElem?_set_ne (Ne.symm hjk)] at hj
    have := (d.ch j c hj).ext (bs' := bases (renC (upTo hp.length (l q).length) (l q)))
    rw [bases_append, hb]
    have e : (fun x => if j < hp.length then (j ≠ k ∧ S j x) else Sf (j - hp.length) x) = S j := by
     funext x; simp [hjl, hjk]
    rw [e]; exact this
  ·obtain ⟨i, rfl⟩ : ∃ i, j = hp.length + i := ⟨j - hp.length, by omega⟩
   rw [List.getElem?_append_right (by simp), List.length_set, Nat.add_sub_cancel_left, renC_map, List.getElem?_map, Option.map_eq_some_iff] at hj
   obtain ⟨c', hc', rfl⟩ := hj
   have hx := exclL_at hh.own i c' hc'
   have h1 := hh.ch i c' hc'
   have e : (fun x => if hp.length + i < hp.length then (hp.length + i ≠ k ∧ S (hp.length + i) x) else Sf (hp.length + i - hp.length) x) = Sf i := by
    funext x; simp only [hjl, if_false, Nat.add_sub_cancel_left]
   rw [e]
   cases c' with
   | box b ty m ex =>
    simp only [Ch.excl] at hx
    subst hx
    obtain ⟨a1, a2, a3, a4⟩ := h1
    obtain ⟨e1, e2⟩ := denL_ren hren m (by simpa using a2)
    exact ⟨by rw [a1, e1], e2, by rw [renL_one]; exact a3, a4⟩
   | arr a n sp cs ex =>
    simp only [Ch.excl] at hx
    subst hx
    obtain ⟨a1, a2⟩ := h1
    refine ⟨a1, ?_⟩
    cases a with
    | none => exact a2
    | some ad => exact a2
   | res r => exact h1
   | gone a n => exact h1
 ·intro i j x h1 h2
  have toS : ∀ i, Sf i x → S k x := fun i hi => (hh.all x).2 ⟨i, hi⟩
  by_cases hi : i < hp.length <;> by_cases hj : j < hp.length <;> simp only [hi, hj, if_true, if_false] at h1 h2
  ·exact d.dj i j x h1.2 h2.2
  ·exact absurd (d.dj i k x h1.2 (toS _ h2)) h1.1
  ·exact absurd (d.dj j k x h2.2 (toS _ h1)) h2.1
  ·have := hh.dj _ _ x h1 h2; omega
 ·intro j x h1 hx
  by_cases hj : j < hp.length <;> simp only [hj, if_true, if_false] at h1
  ·exact d.own j x h1.2 hx
  ·exact d.own k x ((hh.all x).2 ⟨_, h1⟩) hx
 ·intro j x h1
  by_cases hj : j < hp.length <;> simp only [hj, if_true, if_false] at h1
  ·exact d.dom j x h1.2
  ·exact hh.dom _ x h1
 ·intro j x h1
  by_cases hj : j < hp.length <;> simp only [hj, if_true, if_false] at h1
  ·simp; omega
  ·have := hh.out _ x h1
   simp [renC_map]; omega
 ·obtain ⟨bs, hbs⟩ := d.pre
  exact ⟨bs ++ bases (renC (upTo hp.length (l q).length) (l q)), by rw [bases_append, hb, hbs, List.append_assoc]⟩
inductive Src where
 | one (h : Nat)
 | pack (k : Nat) (hs : List Nat)
def Src.key : Src → Nat
 | .one h => h
 | .pack k _ => k
def keys : List Src → List Nat
 | [] => []
 | s :: l => s.key :: keys l
def Src.under : Src → Ch → List Nat
 | .one h, c => match c.isGone with | true => [] | false => [h]
 | .pack _ hs, _ => hs
def unders : List Src → List Ch → List Nat
 | s :: l, c :: m => appL (s.under c) (unders l m)
 | _, _ => []
def noGone : List Ch → Bool
 | [] => true
 | c :: l => match c.isGone with | true => false | false => noGone l
theorem noGone_at : ∀ {l : List Ch}, noGone l = true → ∀ (j : Nat) (c : Ch), l[j]? = some c → c.isGone = false
 | [], _, j, c, h => by simp at h
 | d :: l, hl, j, c, hj => by
  simp only [noGone] at hl
  split at hl
  ·cases hl
  ·rename_i hd
   cases j with
   | zero => simp at hj; subst hj; exact hd
   | succ j => exact noGone_at hl j c (by simpa using hj)
structure PackP (hp : List Ch) (k : Nat) (hs : List Nat) (c : Ch) : Prop where
 h : ∃ (α : Type) (l : α → List Ch) (q : α), c = .res (fun _ => Pack l) ∧ exclL (l q) = true ∧ noGone (l q) = true ∧ hsCL (l q).length (l q) = true ∧ eqCs hp hs hs (l q) ∧ (match nth hp k with | some d => d.base = (none, 1) | none => False)
def srcP (hp : List Ch) (σ0 : List Nat) : List Src → List Ch → Prop
 | [], [] => True
 | .one h :: s, c :: l => (match nth hp h with | some d => eqC d (c.ren σ0) | none => False) ∧ srcP hp σ0 s l
 | .pack k hs :: s, c :: l => PackP hp k hs c ∧ srcP hp σ0 s l
 | _, _ => False
theorem srcP_ok {hp : List Ch} {σ0 : List Nat} : ∀ {src : List Src} {l : List Ch}, srcP hp σ0 src l → src.length = l.length ∧ ∀ (i : Nat) (c : Ch), l[i]? = some c → ∃ s, src[i]? = some s ∧
  ((∃ h d, s = .one h ∧ hp[h]? = some d ∧ eqC d (c.ren σ0)) ∨ ∃ k hs, s = .pack k hs ∧ PackP hp k hs c)
 | [], [], _ => by simp
 | .one h :: src, c :: l, hh => by
  obtain ⟨h1, h2⟩ := hh
  obtain ⟨h3, h4⟩ := srcP_ok h2
  refine ⟨by simp [h3], fun i c' hi => ?_⟩
  cases i with
  | zero =>
   simp at hi
   subst hi
   split at h1
   ·rename_i d hd; exact ⟨.one h, rfl, .inl ⟨h, d, rfl, by rw [← nth_eq]; exact hd, h1⟩⟩
   ·exact h1.elim
  | succ i => simpa using h4 i c' (by simpa using hi)
 | .pack k hs :: src, c :: l, hh => by
  obtain ⟨h1, h2⟩ := hh
  obtain ⟨h3, h4⟩ := srcP_ok h2
  refine ⟨by simp [h3], fun i c' hi => ?_⟩
  cases i with
  | zero =>
   simp at hi
   subst hi
   exact ⟨.pack k hs, rfl, .inr ⟨k, hs, rfl, h1⟩⟩
  | succ i => simpa using h4 i c' (by simpa using hi)
 | [], _ :: _, h => by simp [srcP] at h
 | .one _ :: _, [], h => by simp [srcP] at h
 | .pack _ _ :: _, [], h => by simp [srcP] at h
theorem unders_at : ∀ {src : List Src} {l : List Ch}, (unders src l).Nodup → ∀ {i j : Nat} {s s' : Src} {c c' : Ch} {h : Nat}, src[i]? = some s → src[j]? = some s' → l[i]? = some c → l[j]? = some c' → h ∈ s.under c → h ∈ s'.under c' → i = j
 | [], l, _, i, j, s, s', c, c', h, h1, _, _, _, _, _ => by simp at h1
 | x :: src, [], _, i, j, s, s', c, c', h, _, _, h3, _, _, _ => by simp at h3
 | x :: src, d :: l, hn, i, j, s, s', c, c', h, h1, h2, h3, h4, h5, h6 => by
  simp only [unders, appL_eq, List.nodup_append] at hn
  obtain ⟨n1, n2, n3⟩ := hn
  have later : ∀ {i : Nat} {s : Src} {c : Ch}, src[i]? = some s → l[i]? = some c → h ∈ s.under c → h ∈ unders src l := by
   clear n1 n2 n3 h1 h2 h3 h4
   induction src generalizing l with
   | nil => intro i s c g1; simp at g1
   | cons y src ih =>
    intro i s c g1 g2 g3
    cases l with
    | nil => simp at g2
    | cons e l =>
     simp only [unders, appL_eq, List.mem_append]
     cases i with
     | zero => simp at g1 g2; subst g1; subst g2; exact .inl g3
     | succ i => exact .inr (ih l (by simpa using g1) (by simpa using g2) g3)
  cases i with
  | zero =>
   cases j with
   | zero => rfl
   | succ j =>
    simp at h1 h3
    subst h1; subst h3
    exact absurd rfl (n3 h h5 h (later (by simpa using h2) (by simpa using h4) h6))
  | succ i =>
   cases j with
   | zero =>
    simp at h2 h4
    subst h2; subst h4
    exact absurd rfl (n3 h h6 h (later (by simpa using h1) (by simpa using h3) h5))
   | succ j => exact congrArg (· + 1) (unders_at n2 (by simpa using h1) (by simpa using h2) (by simpa using h3) (by simpa using h4) h5 h6)
theorem view_by {Γ : Ctx} {hp hp' : List Ch} (src : List Src) (k : Nat) (hk : Γ.b0.length = k) (hup : isUp 0 k (keys src) = true) (hkl : Nat.ble k hp'.length = true) (hn : (unders src hp').Nodup) (hhc : hsCL hp'.length hp' = true)
  (hs : srcP hp (keys src) src hp') {w : World} (hd : DenH Γ hp w) : RenOk (keys src) hp'.length (bases hp') (bases hp) ∧ DenH Γ hp' w := by
 obtain ⟨hlen, hat⟩ := srcP_ok hs
 have hkeys : ∀ i : Nat, (keys src)[i]? = (src[i]?).map Src.key := by
  intro i
  clear hup hn hs hlen hat
  induction src generalizing i with
  | nil => simp [keys]
  | cons s src ih => cases i <;> simp [keys, ih]
 have hren : RenOk (keys src) hp'.length (bases hp') (bases hp) := by
  intro i hi
  obtain ⟨s, h1, h2⟩ := hat i hp'[i] (by simp [hi])
  have e : nthD (keys src) i = s.key := by simp [nthD, nth_eq, hkeys, h1]
  rw [e]
  rcases h2 with ⟨h, d, rfl, h3, h4⟩ | ⟨k', hs', rfl, h3⟩
  ·refine ⟨by simpa [Src.key] using (List.getElem?_eq_some_iff.1 h3).1, ?_⟩
   have := eqC_base h4
   rw [ren_base] at this
   simp [bases, Src.key, h3, hi, this]
  ·obtain ⟨α, l, q, g1, g2, gng, g3, g4, g5⟩ := h3.h
   simp only [Src.key]
   split at g5
   ·rename_i d hd'
    rw [nth_eq] at hd'
    refine ⟨by simpa using (List.getElem?_eq_some_iff.1 hd').1, ?_⟩
    have e2 : hp'[i].base = (none, 1) := by rw [g1]; rfl
    simp [bases, hd', hi, g5, e2]
   ·exact g5.elim
 refine ⟨hren, ?_⟩
 obtain ⟨S, dd⟩ := hd
 refine ⟨fun i x => ∃ s c h, src[i]? = some s ∧ hp'[i]? = some c ∧ h ∈ s.under c ∧ S h x, dd.fr, ?_, ?_, ?_, ?_, ?_, ?_⟩
 ·intro i c hi
  obtain ⟨s, h1, h2⟩ := hat i c hi
  have hhci := hsCL_at hhc i c hi
  have hSet : (fun x => ∃ s c h, src[i]? = some s ∧ hp'[i]? = some c ∧ h ∈ s.under c ∧ S h x) = fun x => ∃ h, h ∈ s.under c ∧ S h x := by
   funext x; apply propext
   constructor
   ·rintro ⟨s', c', h, g1, g2, g3, g4⟩
    rw [h1] at g1; rw [hi] at g2
    cases g1; cases g2
    exact ⟨h, g3, g4⟩
   ·rintro ⟨h, g3, g4⟩
    exact ⟨s, c, h, h1, hi, g3, g4⟩
  rw [hSet]
  rcases h2 with ⟨h, d, rfl, h3, h4⟩ | ⟨k', hs', rfl, h3⟩
  ·have hc := dd.ch h d h3
   have hS : c.isGone = false → (fun x => ∃ h', h' ∈ (Src.one h).under c ∧ S h' x) = S h := by
    intro hg
    funext x
    simp [Src.under, hg]
   cases c with
   | box b ty l ex =>
    rw [hS rfl]
    cases d <;> simp only [Ch.ren, eqC] at h4 <;> first | exact h4.elim | skip
    rename_i b' ty' l' ex'
    split at h4
    ·rename_i e2 e3
     obtain ⟨⟨e4, e1⟩, e5⟩ := h4
     simp only [beq_iff_eq] at e2
     have e4 : b' = b := e4
     subst e4; subst e2
     obtain ⟨a1, a2, a3, a4⟩ := hc
     obtain ⟨r1, r2⟩ := denL_ren hren l (by simpa using (show SV.hsL hp'.length l = true from hhci))
     exact ⟨by rw [a1, eqVs_ok e5, r1, (e1 : _ = _)], by simpa using (show SV.hsL hp'.length l = true from hhci), by rw [← renL_one (keys src)]; exact e3, a4⟩
    ·exact h4.elim
   | arr ad n sp cs ex =>
    rw [hS rfl]
    cases d <;> simp only [Ch.ren, eqC] at h4 <;> first | exact h4.elim | skip
    rename_i ad' n' sp' cs' ex'
    split at h4
    ·rename_i e2
     obtain ⟨⟨e4, e6, e7⟩, e5⟩ := h4
     simp only [beq_iff_eq] at e2
     subst e2; subst e4
     obtain ⟨a1, a2⟩ := hc
     obtain ⟨q1, q2⟩ := eqCols_ok e5
     refine ⟨?_, ?_⟩
     ·intro c hcm
      obtain ⟨q, hq, rfl⟩ := List.getElem_of_mem hcm
      have := q2 q (cs'[q]'(by omega)) cs[q] (by simp [q1, hq]) (by simp [hq])
      rw [← this, ← e6]
      exact a1 _ (List.getElem_mem _)
     ·cases ad' with
      | none => exact ⟨by rw [← e6]; exact a2.1, by rw [← e7]; exact a2.2.1, a2.2.2⟩
      | some ad =>
       simp only at a2 ⊢
       rw [← e6, ← e7, ← flat_eqCols e5, ← q1, ← plain_eqCols e5]
       exact a2
    ·exact h4.elim
   | res r =>
    rw [hS rfl]
    cases d <;> simp only [Ch.ren, eqC] at h4 <;> first | exact h4.elim | skip
    show (r ()).R w (S h)
    rw [← h4.h]
    exact hc
   | gone b n =>
    rintro x ⟨h', g1, _⟩
    simp [Src.under, Ch.isGone] at g1
  ·obtain ⟨α, l, q, g1, g2, gng, g3, g4, g5⟩ := h3.h
   subst g1
   obtain ⟨p1, p2⟩ := eqCs_ok g4
   show ∃ q Sf, Holds (l q) w _ Sf
   have hren2 : RenOk hs' (l q).length (bases (l q)) (bases hp) := by
    intro j hj
    obtain ⟨h, d, e1, e2, e3⟩ := p2 j (l q)[j] (by simp [hj])
    have e : nthD hs' j = h := by simp [nthD, nth_eq, e1]
    rw [e]
    refine ⟨by simpa using (List.getElem?_eq_some_iff.1 e2).1, ?_⟩
    have := eqC_base e3
    rw [ren_base] at this
    simp [bases, e2, hj, this]
   have hnd : hs'.Nodup := by
    have : ∀ {src : List Src} {l : List Ch} {i : Nat} {c : Ch}, (unders src l).Nodup → src[i]? = some (.pack k' hs') → l[i]? = some c → hs'.Nodup := by
     intro src
     induction src with
     | nil => intro l i c _ g; simp at g
     | cons y src ih =>
      intro l i c gn g1 g2
      cases l with
      | nil => simp at g2
      | cons e l =>
       simp only [unders, appL_eq, List.nodup_append] at gn
       cases i with
       | zero => simp at g1; subst g1; exact gn.1
       | succ i => exact ih gn.2.1 (by simpa using g1) (by simpa using g2)
    exact this hn h1 hi
   refine ⟨q, fun j x => ∃ h, hs'[j]? = some h ∧ S h x, g2, ?_, ?_, ?_, ?_, ?_⟩
   ·intro j c hj
    obtain ⟨h, d, e1, e2, e3⟩ := p2 j c hj
    have hc := dd.ch h d e2
    have hx := exclL_at g2 j c hj
    have hhcj := hsCL_at g3 j c hj
    have hS : (fun x => ∃ h, hs'[j]? = some h ∧ S h x) = S h := by
     funext x; simp [e1]
    rw [hS]
    cases c with
    | box b ty m ex =>
     simp only [Ch.excl] at hx
     subst hx
     cases d <;> simp only [Ch.ren, eqC] at e3 <;> first | exact e3.elim | skip
     rename_i b' ty' l' ex'
     split at e3
     ·rename_i f2 f3
      obtain ⟨⟨f4, f1⟩, f5⟩ := e3
      simp only [beq_iff_eq] at f2
      have f4 : b' = b := f4
      subst f4; subst f2
      obtain ⟨a1, a2, a3, a4⟩ := hc
      obtain ⟨r1, r2⟩ := denL_ren hren2 m (by simpa using (show SV.hsL (l q).length m = true from hhcj))
      exact ⟨by rw [a1, eqVs_ok f5, r1, (f1 : _ = _)], by simpa using (show SV.hsL (l q).length m = true from hhcj), by rw [← renL_one hs']; exact f3, a4⟩
     ·exact e3.elim
    | arr ad n sp cs ex =>
     simp only [Ch.excl] at hx
     subst hx
     cases d <;> simp only [Ch.ren, eqC] at e3 <;> first | exact e3.elim | skip
     rename_i ad' n' sp' cs' ex'
     split at e3
     ·rename_i f2
      obtain ⟨⟨f4, f6, f7⟩, f5⟩ := e3
      simp only [beq_iff_eq] at f2
      subst f2; subst f4
      obtain ⟨a1, a2⟩ := hc
      obtain ⟨q1, q2⟩ := eqCols_ok f5
      refine ⟨?_, ?_⟩
      ·intro c hcm
       obtain ⟨z, hz, rfl⟩ := List.getElem_of_mem hcm
       have := q2 z (cs'[z]'(by omega)) cs[z] (by simp [q1, hz]) (by simp [hz])
       rw [← this, ← f6]
       exact a1 _ (List.getElem_mem _)
      ·cases ad' with
       | none => exact ⟨by rw [← f6]; exact a2.1, by rw [← f7]; exact a2.2.1, a2.2.2⟩
       | some ad =>
        simp only at a2 ⊢
        rw [← f6, ← f7, ← flat_eqCols f5, ← q1, ← plain_eqCols f5]
        exact a2
     ·exact e3.elim
    | res r =>
     cases d <;> simp only [Ch.ren, eqC] at e3 <;> first | exact e3.elim | skip
     show (r ()).R w (S h)
     rw [← e3.h]
     exact hc
    | gone b n => exact absurd (noGone_at gng j _ hj) (by simp [Ch.isGone])
   ·rintro a b x ⟨h, e1, e2⟩ ⟨h', e1', e2'⟩
    have := dd.dj h h' x e2 e2'
    subst this
    exact nodup_get hnd e1 e1'
   ·rintro a x ⟨h, _, e2⟩
    exact dd.dom h x e2
   ·rintro a x ⟨h, e1, _⟩
    have := (List.getElem?_eq_some_iff.1 e1).1
    omega
   ·intro x
    constructor
    ·rintro ⟨h, g6, g7⟩
     obtain ⟨j, hj, g8⟩ := List.getElem_of_mem (show h ∈ hs' from g6)
     exact ⟨j, h, by rw [List.getElem?_eq_getElem hj, g8], g7⟩
    ·rintro ⟨j, h, g6, g7⟩
     exact ⟨h, List.mem_of_getElem? g6, g7⟩
 ·rintro i j x ⟨s, c, h, g1, g2, g3, g4⟩ ⟨s', c', h', g1', g2', g3', g4'⟩
  have := dd.dj h h' x g4 g4'
  subst this
  exact unders_at hn g1 g1' g2 g2' g3 g3'
 ·rintro i x ⟨s, c, h, _, _, _, g⟩ hx
  exact dd.own h x g hx
 ·rintro i x ⟨s, c, h, _, _, _, g⟩
  exact dd.dom h x g
 ·rintro i x ⟨s, c, h, _, g, _, _⟩
  exact (List.getElem?_eq_some_iff.1 g).1
 ·obtain ⟨bs, hb⟩ := dd.pre
  refine ⟨(bases hp').drop k, ?_⟩
  apply List.ext_getElem?
  intro i
  have hkl := Nat.le_of_ble_eq_true hkl
  by_cases hi : i < k
  ·rw [List.getElem?_append_left (by omega)]
   have h1 := isUp_get hup i hi
   have h2 := (hren i (by omega)).2
   have e : nthD (keys src) i = i := by simp [nthD, nth_eq, h1]
   rw [e, hb, List.getElem?_append_left (by omega)] at h2
   exact h2.symm
  ·rw [List.getElem?_append_right (by omega), List.getElem?_drop, hk]
   congr 1; omega
structure Cl (Γ : Ctx) (R : KV) (v : SV) (hp : List Ch) : Prop where
 h : ∃ v' hp', (∀ w, DenH Γ hp w → DenH Γ hp' w ∧ v.den (bases hp) = v'.den (bases hp')) ∧ v'.hs hp'.length = true ∧ R v' hp'
theorem Cl.same {Γ : Ctx} {R : KV} {v : SV} {hp : List Ch} (hv : v.hs hp.length = true) (h : R v hp) : Cl Γ R v hp := ⟨⟨v, hp, fun _ hd => ⟨hd, rfl⟩, hv, h⟩⟩
theorem Cl.by {Γ : Ctx} {R : KV} {v v' : SV} {hp hp' : List Ch} (src : List Src) (k : Nat) (hk : Γ.b0.length = k) (hup : isUp 0 k (keys src) = true) (hkl : Nat.ble k hp'.length = true) (hn : (unders src hp').Nodup) (hhc : hsCL hp'.length hp' = true)
  (hs : srcP hp (keys src) src hp') (hv : v'.hs hp'.length = true) (he : eqV v (v'.ren (keys src))) (h : R v' hp') : Cl Γ R v hp := by
 refine ⟨⟨v', hp', fun w hd => ?_, hv, h⟩⟩
 obtain ⟨h1, h2⟩ := view_by src k hk hup hkl hn hhc hs hd
 exact ⟨h2, by rw [eqV_ok he, (den_ren h1 v' hv).1]⟩
theorem wr_u64 {n : Int} (h0 : 0 ≤ n) (h1 : n < 18446744073709551616) : wr .u64 n = n := by
 simp only [wr, IntKind.wrap, IntKind.bits, IntKind.signed]
 simp
 omega
theorem wr_u32 {n : Int} (h0 : 0 ≤ n) (h1 : n < 4294967296) : wr .u32 n = n := by
 simp only [wr, IntKind.wrap, IntKind.bits, IntKind.signed]
 simp
 omega
theorem wr_u16 {n : Int} (h0 : 0 ≤ n) (h1 : n < 65536) : wr .u16 n = n := by
 simp only [wr, IntKind.wrap, IntKind.bits, IntKind.signed]
 simp
 omega
theorem wr_i64 {n : Int} (h : inI n) : wr .i64 n = n := wrap_id h
end Go.Proofs.YtfoffehokhkohaaGreat
