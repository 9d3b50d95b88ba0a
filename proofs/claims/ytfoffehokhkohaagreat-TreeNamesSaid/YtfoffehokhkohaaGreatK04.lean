/- Part 4 of what is proved in the last text (packed by a program of mine). -/
import Derived.Test.YtfoffehokhkohaaGreatK03
set_option linter.all false
namespace Go.Proofs.YtfoffehokhkohaaGreat
open Go
theorem sMkslice_ok {Γ : Ctx} {hp : List Ch} {w : World} {bytes : Nat} {cts : List CT} {l c : SV} {K : KV} (h : sMkslice bytes cts hp l c K) (hd : DenH Γ hp w) {t e : Nat} {z : List Value}
  (ht : Γ.P.underlying t = some (.slice e)) (he : TI Γ.P e cts.length bytes z) (hz : z = cts.map CT.z) (h1 : ∀ c ∈ cts, c.z.oneCell' = true) :
  RunE Γ hp w (Instr.makeSlice t (l.den (bases hp)) (c.den (bases hp))) K := by
 unfold sMkslice at h
 split at h
 ·rename_i kl l kc c
  obtain ⟨h0, h2, h3, h4⟩ := h.l
  have h3 : (bytes : Int) * _ ≤ _ := h3
  obtain ⟨cells, hr, hcells⟩ := run_makeSlice (w := w) (kl := kl) (kc := kc) ht he h0 h2 h3 h4
  have hok : Cols.ok (zeroCols (fun _ => (c ()).toNat) cts) (c ()).toNat := zero_ok (fun _ => (c ()).toNat) h1
  refine ⟨_, _, _, ?_, DenH.row hd (n := fun _ => (c ()).toNat) (sp := fun _ => 0) (cs := zeroCols (fun _ => (c ()).toNat) cts) (cells := cells) (ty := e) (fz := (0, 0)) hok ?_ ?_ (.inr rfl) (fun _ => rfl), ExtB.push _ _, h.r w.heap.size⟩
  ·rw [sl_new]
   simp only [SV.den]
   rw [hr, show (l ()).toNat + ((c ()).toNat - (l ()).toNat) = (c ()).toNat by omega]
  ·intro i v hv
   have hlen := length_flat (zeroCols (fun _ => (c ()).toNat) cts) (c ()).toNat
   rw [show (zeroCols (fun _ => (c ()).toNat) cts).length = cts.length by simp [zeroCols_eq]] at hlen
   have hi : i < (c ()).toNat * cts.length := by
    have := (List.getElem?_eq_some_iff.1 hv).1
    omega
   rw [hcells, if_neg (by omega)]
   have := flat_zero (fun _ => (c ()).toNat) cts
   rw [this] at hv
   subst hz
   rw [← Array.getElem?_toList]
   simpa [Builtin.zeroCells] using hv
  ·rw [hcells]
   split <;> simp [zeroCols_eq]
 ·exact h.elim
theorem ok_zero0 {cts : List CT} : Cols.ok (zeroCols (fun _ => 0) cts) 0 := by
 intro c hc
 rw [zeroCols_eq, List.mem_map] at hc
 obtain ⟨ct, _, rfl⟩ := hc
 rw [zero_vals]
 simp
theorem flat0 (cs : List Col) : flat cs 0 = [] := rfl
theorem firstCells_arr {Γ : Ctx} {bs : List Base} {w : World} {hh : Nat} {a a2 : Th (Option Addr)} {ad : Option Addr} {off len ext n sp m : Th Nat} {cs : List Col} {ex : Bool} {S : Nat → Prop}
  (hS : (Ch.arr ad n sp cs ex).holds Γ bs w S) (hb : baseA bs hh = ad) (hk : baseK bs hh = cs.length) (hm : off () + m () ≤ n ()) (hml : m () ≤ len ()) :
  (Builtin.firstCells cs.length (m ()) (.slice (slAddr bs hh a off len ext) (len ()) (len () + ext ()))).run Γ.P w = .ok (flat (cutCols off m cs) (m ())).toArray w := by
 have hlen : (cutCols off m cs).length = cs.length := by simp [cutCols_eq]
 by_cases h0 : m () = 0
 ·rw [h0, flat0]
  cases slAddr bs hh a off len ext with
  | none => simp [Builtin.firstCells]
  | some ad => simp [Builtin.firstCells, loadCells, loadCellsFrom]
 ·cases ad with
  | none => have := hS.2.1; omega
  | some ad =>
   rw [slAddr_pos (by omega), hb, hk]
   simp only [Option.map_some, Builtin.firstCells]
   have hcut := CellsAt.cut (m := m) hS.2.2.2.1 (fun c hc => (hS.1 c hc).1) hm
   have hload := run_loadCells_list (P := Γ.P) w ⟨ad.block, ad.off + off () * cs.length, none⟩ _ (fun j v hv => by rw [add_none]; exact hcut j v hv)
   rw [length_flat, hlen] at hload
   exact hload
structure ElemsOk (Γ : Ctx) (w : World) (size : Nat) (y : Value) (m : Th Nat) (new : List Col) : Prop where
 len : new.length = size
 ok : Cols.ok new (m ())
 run : ∀ w', w'.heap = w.heap → (Builtin.firstCells size (m ()) y).run Γ.P w' = .ok (flat new (m ())).toArray w'
theorem holds_heap {Γ : Ctx} {bs : List Base} {w w' : World} {a : Option Addr} {n sp : Th Nat} {cs : List Col} {ex : Bool} {S : Nat → Prop} (hh : (Ch.arr a n sp cs ex).holds Γ bs w S) (he : w'.heap = w.heap) : (Ch.arr a n sp cs ex).holds Γ bs w' S := by
 obtain ⟨h1, h2⟩ := hh
 refine ⟨h1, ?_⟩
 cases a with
 | none => exact h2
 | some ad =>
  obtain ⟨a1, a2, a3, a4⟩ := h2
  refine ⟨a1, by rw [he]; exact a2, a3.of_block (by rw [he]), ?_⟩
  split
  ·rename_i hx; rw [if_pos hx] at a4; exact ⟨a4.1, a4.2.of_block (by rw [he])⟩
  ·rename_i hx; rw [if_neg hx] at a4; exact a4
theorem elems_ok {Γ : Ctx} {hp : List Ch} {w : World} {cts : List CT} {y : SV} {K : Th Nat → List Col → Th Prop → Prop} (h : elems cts hp y K) (hd : DenH Γ hp w) :
  ∃ m new hm, K m new hm ∧ ((Builtin.lenOf (y.den (bases hp))).run Γ.P w = .ok (m ()) w) ∧ (hm () → ElemsOk Γ w cts.length (y.den (bases hp)) m new) := by
 unfold elems at h
 split at h
 ·refine ⟨_, _, _, h, by simp [SV.den, Builtin.lenOf], fun _ => ⟨by simp [zeroCols_eq], ok_zero0, fun w' _ => ?_⟩⟩
  simp [SV.den, Builtin.firstCells, flat0]
 ·rename_i hh a off len ext
  split at h
  ·rename_i ad n sp cs ex hc
   split at h
   ·rename_i hk
    have hk := Nat.eq_of_beq_eq_true hk
    obtain ⟨hb, hbk⟩ := base_at hc
    rw [nth_eq] at hc
    obtain ⟨S, hS⟩ := hd.at hc
    rw [sl_den]
    refine ⟨_, _, _, h, by simp [Builtin.lenOf], fun hm => ⟨by simp [cutCols_eq, hk], cut_len hS.1 hm, fun w' he => ?_⟩⟩
    rw [← hk]
    exact firstCells_arr (a2 := a) (holds_heap hS he) hb hbk hm (Nat.le_refl _)
   ·exact h.elim
  ·exact h.elim
 ·rename_i s
  split at h
  ·refine ⟨_, _, _, h, by simp [SV.den, Builtin.lenOf, size_mk], fun _ => ⟨by simp, b8_ok s, fun w' _ => ?_⟩⟩
   have hlen : (Col.b8 s).vals.length = (s ()).length := by simp [Col.vals]
   rw [flat_one _ _ hlen]
   simp [SV.den, Builtin.firstCells, Col.vals, extract_toArray]
  ·exact h.elim
 ·exact h.elim
theorem run_storeCellsR {P : Program} (b off : Nat) : ∀ (vs : List Value) (i : Nat) (w : World), (∀ j, j < vs.length → w.frozen? ⟨b, off + (i + j), none⟩ = false ∧ (w.cell? ⟨b, off + (i + j), none⟩).isSome = true) → (∀ v ∈ vs, v.oneCell' = true) →
  ∃ w', (storeCells ⟨b, off, none⟩ vs i).run P w = .ok () w' ∧ w'.os = w.os ∧ w'.output = w.output ∧ w'.tape = w.tape ∧ w'.heap.size = w.heap.size ∧ (∀ x, x ≠ b → w'.heap[x]? = w.heap[x]?) ∧ (∀ a, w'.frozen? a = w.frozen? a) ∧
   (∀ o, w'.cell? ⟨b, o, none⟩ = if off + i ≤ o ∧ o < off + i + vs.length then vs[o - (off + i)]? else w.cell? ⟨b, o, none⟩)
 | [], i, w, _, _ => by
  refine ⟨w, by simp [storeCells], rfl, rfl, rfl, rfl, fun _ _ => rfl, fun _ => rfl, fun o => ?_⟩
  rw [if_neg (by simp only [List.length_nil]; omega)]
 | v :: vs, i, w, hr, h1 => by
  have h0 := hr 0 (by simp)
  simp only [Nat.add_zero] at h0
  have hstep : ∀ o, (w.setCell ⟨b, off + i, none⟩ v).cell? ⟨b, o, none⟩ = if o = off + i then some v else w.cell? ⟨b, o, none⟩ := by
   intro o
   rw [cell_setCell _ _ _ _ rfl rfl h0.2]
   by_cases e : o = off + i
   ·subst e; simp
   ·simp [e]
  obtain ⟨w', hrun, e1, e2, e3, e4, e5, e6, e7⟩ := run_storeCellsR (P := P) b off vs (i + 1) (w.setCell ⟨b, off + i, none⟩ v) (fun j hj => by
   have := hr (j + 1) (by simp; omega)
   rw [World.frozen?_setCell, hstep, show off + (i + 1 + j) = off + (i + (j + 1)) by omega]
   refine ⟨this.1, ?_⟩
   split
   ·rfl
   ·exact this.2) (fun u hu => h1 u (List.mem_cons_of_mem _ hu))
  refine ⟨w', ?_, e1, e2, e3, by rw [e4]; simp, fun x hx => by rw [e5 x hx]; exact heap_setCell_other w _ x v hx, fun a => by rw [e6, World.frozen?_setCell], fun o => ?_⟩
  ·obtain ⟨u, hu⟩ := Option.isSome_iff_exists.1 h0.2
   simp only [storeCells, Sem.run_bind, add_none]
   rw [run_store _ _ _ _ _ (h1 v List.mem_cons_self), hu, h0.1]
   simpa using hrun
  ·rw [e7, hstep]
   by_cases h3 : o = off + i
   ·subst h3
    rw [if_neg (by omega), if_pos rfl, if_pos (by simp), Nat.sub_self]
    rfl
   ·by_cases h4 : off + (i + 1) ≤ o ∧ o < off + (i + 1) + vs.length
    ·rw [if_pos h4, if_pos (by simp; omega), show o - (off + i) = (o - (off + (i + 1))) + 1 by omega]
     rfl
    ·rw [if_neg h4, if_neg h3, if_neg (by simp; omega)]
theorem storeCells_at {pl : Bool} {P : Program} {w : World} {ad : Addr} {N : Nat} (hsp : ad.spot = none) (hr : Roomy pl w ad N) (o : Nat) (vs : List Value) (hfit : o + vs.length ≤ N) (h1 : ∀ v ∈ vs, v.oneCell' = true) :
  ∃ w', (storeCells ⟨ad.block, ad.off + o, none⟩ vs).run P w = .ok () w' ∧ w'.os = w.os ∧ w'.output = w.output ∧ w'.tape = w.tape ∧ w'.heap.size = w.heap.size ∧ (∀ x, x ≠ ad.block → w'.heap[x]? = w.heap[x]?) ∧ Roomy pl w' ad N ∧
   ∀ l : List Value, CellsAt w ad l → o + vs.length ≤ l.length → CellsAt w' ad (overC l o vs) := by
 obtain ⟨w', hrun, e1, e2, e3, e4, e5, e6, e7⟩ := run_storeCellsR (P := P) ad.block (ad.off + o) vs 0 w (fun j hj => by
  have := hr.1 (o + j) (by omega)
  rw [show ad.off + o + (0 + j) = ad.off + (o + j) by omega]; exact this) h1
 refine ⟨w', hrun, e1, e2, e3, e4, e5, ?_, ?_⟩
 ·refine ⟨fun i hi => ?_, fun hp q hq => ?_⟩
  ·have := hr.1 i hi
   rw [e6, e7]
   refine ⟨this.1, ?_⟩
   split
   ·rename_i h
    rw [List.getElem?_eq_getElem (by omega)]
    rfl
   ·exact this.2
  ·rw [e6]
   refine hr.2 hp q ?_
   rw [e7] at hq
   split at hq
   ·rw [List.getElem?_eq_getElem (by omega)] at hq
    cases hq
   ·exact hq
 ·intro l hl hfl i v hv
  rw [getElem?_overC l o vs hfl] at hv
  rw [e7]
  by_cases h2 : i < o
  ·rw [if_pos h2] at hv
   rw [if_neg (by omega)]
   exact hl i v hv
  ·rw [if_neg h2] at hv
   by_cases h3 : i < o + vs.length
   ·rw [if_pos h3] at hv
    rw [if_pos (by omega), show ad.off + i - (ad.off + o + 0) = i - o by omega]
    exact hv
   ·rw [if_neg h3] at hv
    rw [if_neg (by omega)]
    exact hl i v hv
theorem storeCells_end {pl : Bool} {P : Program} {w : World} {ad : Addr} {N : Nat} (hsp : ad.spot = none) (hr : Roomy pl w ad N) (l vs : List Value) (hl : CellsAt w ad l) (hfit : l.length + vs.length ≤ N) (h1 : ∀ v ∈ vs, v.oneCell' = true) :
  ∃ w', (storeCells ⟨ad.block, ad.off + l.length, none⟩ vs).run P w = .ok () w' ∧ w'.os = w.os ∧ w'.output = w.output ∧ w'.tape = w.tape ∧ w'.heap.size = w.heap.size ∧ (∀ x, x ≠ ad.block → w'.heap[x]? = w.heap[x]?) ∧ Roomy pl w' ad N ∧
   CellsAt w' ad (l ++ vs) := by
 obtain ⟨w', hrun, e1, e2, e3, e4, e5, e6, e7⟩ := run_storeCellsR (P := P) ad.block (ad.off + l.length) vs 0 w (fun j hj => by
  have := hr.1 (l.length + j) (by omega)
  rw [show ad.off + l.length + (0 + j) = ad.off + (l.length + j) by omega]; exact this) h1
 refine ⟨w', hrun, e1, e2, e3, e4, e5, ?_, ?_⟩
 ·refine ⟨fun i hi => ?_, fun hp q hq => ?_⟩
  ·have := hr.1 i hi
   rw [e6, e7]
   refine ⟨this.1, ?_⟩
   split
   ·rename_i h
    rw [List.getElem?_eq_getElem (by omega)]
    rfl
   ·exact this.2
  ·rw [e6]
   refine hr.2 hp q ?_
   rw [e7] at hq
   split at hq
   ·rw [List.getElem?_eq_getElem (by omega)] at hq
    cases hq
   ·exact hq
 ·intro i v hv
  rw [e7]
  by_cases h2 : i < l.length
  ·rw [List.getElem?_append_left h2] at hv
   rw [if_neg (by omega)]
   exact hl i v hv
  ·rw [List.getElem?_append_right (by omega)] at hv
   have : i - l.length < vs.length := (List.getElem?_eq_some_iff.1 hv).1
   rw [if_pos (by omega), show ad.off + i - (ad.off + l.length + 0) = i - l.length by omega]
   exact hv
def notInt (P : Program) (t : Nat) : Prop := (∃ e, P.underlying t = some (.slice e)) ∨ P.underlying t = some .string
theorem run_append_in {P : Program} {w w' : World} {sT xT ty e size bytes m sLen sCap : Nat} {z : List Value} {base : Option Addr} {x : Value} {new : List Value} (ht : P.underlying sT = some (.slice e)) (he : TI P e size bytes z) (hx : notInt P xT)
  (hm : (Builtin.lenOf x).run P w = .ok m w) (hf : (Builtin.firstCells size m x).run P w = .ok new.toArray w) (hroom : sLen + m ≤ sCap)
  (hst : match base with | some a => (storeCells (a.add (sLen * size)) new).run P w = .ok () w' | none => w' = w) :
  (Builtin.append_ #[sT, xT] ty #[.slice base sLen sCap, x]).run P w = .ok (.slice base (sLen + m) sCap) w' := by
 unfold Builtin.append_
 rcases hx with ⟨e', hx⟩ | hx
 ·cases base with
  | none =>
   subst hst
   simp [run_underlying ht, run_underlying hx, he.sizeOf, hm, hf, hroom]
  | some a => simp [run_underlying ht, run_underlying hx, he.sizeOf, hm, hf, hroom, hst]
 ·cases base with
  | none =>
   subst hst
   simp [run_underlying ht, run_underlying hx, he.sizeOf, hm, hf, hroom]
  | some a => simp [run_underlying ht, run_underlying hx, he.sizeOf, hm, hf, hroom, hst]
theorem run_append_out {P : Program} {w : World} {sT xT ty e size bytes m sLen sCap : Nat} {z : List Value} {base : Option Addr} {x : Value} {old new : List Value} (ht : P.underlying sT = some (.slice e)) (he : TI P e size bytes z) (hx : notInt P xT)
  (hm : (Builtin.lenOf x).run P w = .ok m w) (hf : (Builtin.firstCells size m x).run P w.drew = .ok new.toArray w.drew) (ho : (Builtin.firstCells size sLen (.slice base sLen sCap)).run P w.drew = .ok old.toArray w.drew)
  (hroom : sCap < sLen + m) (hby : (sLen + m) * bytes ≤ 140737488355328) (hsm : sLen + m ≤ 9223372036854775807) :
  (Builtin.append_ #[sT, xT] ty #[.slice base sLen sCap, x]).run P w = .ok (.slice (some ⟨w.heap.size, 0, none⟩) (sLen + m) (grownCap w (sLen + m) sCap e))
   (w.drew.alloc (.cells (old.toArray ++ (new.toArray ++ Builtin.zeroCells z.toArray (grownCap w (sLen + m) sCap e - (sLen + m)))) e)) := by
 obtain ⟨i, v, hi1, hi2, hi3, hi4, hi5⟩ := he.h
 have hn : ¬ (sLen + m ≤ sCap) := by omega
 have h63 : ¬ ((9223372036854775807 : Int) < (sLen : Int) + (m : Int)) := by omega
 have hfit : ¬ (281474976710656 < Builtin.nextslicecap (sLen + m) sCap * i.bytes) := by rw [hi3]; have := growslice_fits hroom hby; omega
 have hzv : ∀ w, (zeroValue e).run P w = .ok v w := fun w => by simp [zeroValue, typeInfo, hi1, hi4]
 have hcells : v.cells = z.toArray := by rw [← hi5]
 have hsz := he.sizeOf w
 unfold Builtin.append_
 unfold grownCap
 rcases hx with ⟨e', hx⟩ | hx <;> by_cases hb : (Question.appendCap (sLen + m) sCap e).cut (w.tape w.drawn (.appendCap (sLen + m) sCap e)) * i.bytes > 140737488355328 <;>
  simp [run_underlying ht, run_underlying hx, hsz, hm, hn, h63, hfit, typeInfo, hi1, Question.forced, askRoom, roomBytes, hb, hf, ho, hzv, hcells, newRow]
theorem row_grown {Γ : Ctx} {hp : List Ch} {w : World} {e : Nat} (hd : DenH Γ hp w) {n : Th Nat} {cap : Nat} {both : List Col} {z : List Value} (hok : Cols.ok both (n ())) (hz : z.length = both.length) (hn : n () ≤ cap) {l : List Value} (hl : l = flat both (n ())) :
  DenH Γ (hp ++ [.arr (some ⟨w.heap.size, 0, none⟩) n (fun _ => cap - n ()) both true]) (w.alloc (.cells (l.toArray ++ Builtin.zeroCells z.toArray (cap - n ())) e)) := by
 subst hl
 refine DenH.row hd (n := n) (sp := fun _ => cap - n ()) (cs := both) (ty := e) (fz := (0, 0)) hok ?_ ?_ (.inr rfl) (fun _ => rfl)
 ·intro i v hv
  have := (List.getElem?_eq_some_iff.1 hv).1
  rw [Array.getElem?_append_left (by simpa using this)]
  simpa using hv
 ·simp only [Array.size_append, List.size_toArray, length_flat, size_zeroCells, hz, ← Nat.add_mul]
  exact Nat.le_refl _
theorem append_toArray3 (a b : List Value) (c : Array Value) : a.toArray ++ (b.toArray ++ c) = (a ++ b).toArray ++ c := by
 rw [← Array.append_assoc]
 congr 1
 simp
theorem ExtB.setPush {hp : List Ch} {k : Nat} {c c' d : Ch} (hk : hp[k]? = some c) (hb : c'.base = c.base) : ExtB hp (hp.set k c' ++ [d]) := ⟨[d.base], by rw [bases_append, bases_set hk hb]; rfl⟩
theorem sl_new' (hp : List Ch) (a : Th (Option Addr)) (ad : Addr) (hs : ad.spot = none) (len ext n sp : Th Nat) (cs : List Col) (k : Nat) (hk : hp.length = k) (hp0 : len () + ext () ≠ 0) :
  (SV.sl k a (fun _ => 0) len ext).den (bases (hp ++ [.arr (some ad) n sp cs true])) = .slice (some ad) (len ()) (len () + ext ()) := by
 subst hk
 have : (⟨ad.block, ad.off, none⟩ : Addr) = ad := by cases ad; simp_all
 simp only [SV.den, if_neg hp0]
 simp [baseA, baseK, bases, Ch.base, this]
theorem set_gone (hp : List Ch) (k : Nat) (c : Ch) (h : hp[k]? = some c) {Γ : Ctx} {w : World} (hd : DenH Γ hp w) {a : Option Addr} {n : Nat} (hb : c.base = (a, n)) : DenH Γ (hp.set k (.gone a n)) w := by
 have := hd.gone h
 rw [hb] at this
 exact this
theorem Roomy.sub {pl : Bool} {w : World} {ad : Addr} {N : Nat} (h : Roomy pl w ad N) (o M : Nat) (hM : o + M ≤ N) : Roomy pl w ⟨ad.block, ad.off + o, none⟩ M := ⟨fun i hi => by
 have := h.1 (o + i) (by omega)
 rw [← Nat.add_assoc] at this
 exact this, h.2⟩
theorem Col.over_nat {i : Th Nat} {c d e : Col} (h : c.over i d = some e) (h' : e.isNat = true) : c.isNat = true := by
 unfold Col.over at h
 split at h <;> first | (cases h; done) | (cases h; first | rfl | cases h') | skip
 all_goals (split at h <;> first | rfl | (cases h; done) | (cases h; cases h'))
theorem plain_over {i : Th Nat} : ∀ {cs ds es : List Col}, overCols i cs ds = some es → plain es = true → plain cs = true
 | [], [], es, _, _ => rfl
 | [], _ :: _, es, h, _ => by simp [overCols] at h
 | _ :: _, [], es, h, _ => by simp [overCols] at h
 | c :: cs, d :: ds, es, h, h' => by
  simp only [overCols] at h
  split at h
  ·rename_i x r h1 h2
   cases h
   simp only [plain, List.all_cons, Bool.and_eq_true] at h' ⊢
   exact ⟨Col.over_nat h1 h'.1, plain_over h2 h'.2⟩
  ·cases h
theorem Col.app_nat {c d e : Col} (h : c.app d = some e) (h' : e.isNat = true) : c.isNat = true := by
 unfold Col.app at h
 split at h <;> first | (cases h; done) | (cases h; first | rfl | cases h') | skip
 all_goals (split at h <;> first | rfl | (cases h; done) | (cases h; cases h'))
theorem plain_app : ∀ {cs ds es : List Col}, appCols cs ds = some es → plain es = true → plain cs = true
 | [], [], es, _, _ => rfl
 | [], _ :: _, es, h, _ => by simp [appCols] at h
 | _ :: _, [], es, h, _ => by simp [appCols] at h
 | c :: cs, d :: ds, es, h, h' => by
  simp only [appCols] at h
  split at h
  ·rename_i x r h1 h2
   cases h
   simp only [plain, List.all_cons, Bool.and_eq_true] at h' ⊢
   exact ⟨Col.app_nat h1 h'.1, plain_app h2 h'.2⟩
  ·cases h
theorem plain_cut {off m : Th Nat} : ∀ {cs : List Col}, plain (cutCols off m cs) = true → plain cs = true
 | [], _ => rfl
 | c :: cs, h => by
  simp only [cutCols, plain, List.all_cons, Bool.and_eq_true] at h ⊢
  refine ⟨?_, plain_cut h.2⟩
  cases c <;> first | rfl | exact h.1
structure AppRun (P : Program) (ts : Array TypeId) (ty e size bytes : Nat) (z : List Value) (y : Value) (m : Nat) (new : List Value) (w : World) : Prop where
 ain : ∀ {w' : World} {sLen sCap : Nat} {base : Option Addr}, sLen + m ≤ sCap → (match base with | some a => (storeCells (a.add (sLen * size)) new).run P w = .ok () w' | none => w' = w) →
  (Builtin.append_ ts ty #[.slice base sLen sCap, y]).run P w = .ok (.slice base (sLen + m) sCap) w'
 aout : ∀ {sLen sCap : Nat} {base : Option Addr} {old : List Value}, (Builtin.firstCells size sLen (.slice base sLen sCap)).run P w.drew = .ok old.toArray w.drew → sCap < sLen + m → (sLen + m) * bytes ≤ 140737488355328 → sLen + m ≤ 9223372036854775807 →
  (Builtin.append_ ts ty #[.slice base sLen sCap, y]).run P w = .ok (.slice (some ⟨w.heap.size, 0, none⟩) (sLen + m) (grownCap w (sLen + m) sCap e))
   (w.drew.alloc (.cells (old.toArray ++ (new.toArray ++ Builtin.zeroCells z.toArray (grownCap w (sLen + m) sCap e - (sLen + m)))) e))
structure AppEl (Γ : Ctx) (w : World) (ts : Array TypeId) (ty e size bytes : Nat) (z : List Value) (y : Value) (m : Th Nat) (new : List Col) : Prop where
 len : new.length = size
 ok : Cols.ok new (m ())
 run : AppRun Γ.P ts ty e size bytes z y (m ()) (flat new (m ())) w
theorem sAppE_ok {Γ : Ctx} {hp : List Ch} {w : World} {bytes : Nat} {cts : List CT} {x : SV} {y : Value} {m : Th Nat} {new : List Col} {hm : Th Prop} {K : KV} (h : sAppE bytes cts hp x m new hm K) (hd : DenH Γ hp w) {ts : Array TypeId} {ty e : Nat} {z : List Value}
  (hz : z.length = cts.length) (hb : 0 < bytes) (hel : hm () → AppEl Γ w ts ty e cts.length bytes z y m new) : RunE Γ hp w (Builtin.append_ ts ty #[x.den (bases hp), y]) K := by
 unfold sAppE at h
 have small : ∀ q : Nat, q * bytes ≤ 140737488355328 → q ≤ 9223372036854775807 := fun q hq => by
  have := Nat.mul_le_mul_left q (show 1 ≤ bytes from hb)
  omega
 split at h
 ·
  obtain ⟨h1, h2⟩ := h.l
  have el := hel h1
  have hK := h.r
  by_cases h0 : m () = 0
  ·have hr := el.run.ain (w' := w) (sLen := 0) (sCap := 0) (base := none) (by omega) rfl
   refine ⟨_, _, w, ?_, DenH.push0 hd (d := .arr none m (fun _ => 0) new true) ⟨el.ok, h0, rfl, fun _ h => h⟩, ExtB.push _ _, hK none 0⟩
   simp only [SV.den]
   rw [hr]
   simp [h0]
  ·have hr := el.run.aout (sLen := 0) (sCap := 0) (base := none) (old := []) (by simp [Builtin.firstCells]) (by omega) (by simpa using h2) (by have := small _ h2; omega)
   have hge := grownCap_ge w (m ()) 0 e
   refine ⟨_, _, _, ?_, row_grown (e := e) hd.drew (n := m) (cap := grownCap w (m ()) 0 e) el.ok (by rw [el.len, hz]) hge rfl, ExtB.push _ _, hK (some ⟨w.drew.heap.size, 0, none⟩) (grownCap w (m ()) 0 e - m ())⟩
   simp only [Nat.zero_add] at hr
   have hs : (SV.sl hp.length (fun _ => some ⟨w.drew.heap.size, 0, none⟩) (fun _ => 0) m (fun _ => grownCap w (m ()) 0 e - m ())).den (bases (hp ++ [.arr (some ⟨w.drew.heap.size, 0, none⟩) m (fun _ => grownCap w (m ()) 0 e - m ()) new true])) = .slice (some ⟨w.heap.size, 0, none⟩) (m ()) (grownCap w (m ()) 0 e) := by
    rw [sl_new, World.size_drew, Nat.add_sub_cancel' hge]
   rw [hs]
   simp only [SV.den]
   rw [hr]
   simp
 ·rename_i hh a off len ext
  split at h
  ·rename_i ad n sp cs hc
   have hc0 := hc
   obtain ⟨hba, hbk⟩ := base_at hc
   rw [nth_eq] at hc
   split at h
   ·rename_i both hk hboth
    have hk := Nat.eq_of_beq_eq_true hk
    obtain ⟨S, hS⟩ := hd.at hc
    have hlen2 : (cutCols off len cs).length = cs.length := by simp [cutCols_eq]
    have hbase : ∀ ad0, ad = some ad0 → len () + ext () ≠ 0 → slAddr (bases hp) hh a off len ext = some ⟨ad0.block, ad0.off + off () * cs.length, none⟩ := fun ad0 e0 hne => by
     rw [slAddr_pos hne, hba, hbk]; simp [Ch.base, e0]
    cases h with
    | any h =>
     obtain ⟨h1, h2, h3, h4⟩ := h.l
     have hK := h.r
     have el := hel h1
     have hcut := cut_len (m := len) hS.1 h2
     have hbok : Cols.ok both (len () + m ()) := app_ok hboth hcut el.ok
     have hbl : both.length = cs.length := by have := (appCols_vals hboth).1; simpa [cutCols_eq] using this
     have hfl : flat both (len () + m ()) = flat (cutCols off len cs) (len ()) ++ flat new (m ()) := flat_app hboth (fun c hc => (hcut c hc).1) (fun c hc => (el.ok c hc).1)
     by_cases hroom : len () + m () ≤ len () + ext ()
     ·by_cases hempty : len () + ext () = 0
      ·have hm0 : m () = 0 := by omega
       have hl0 : len () = 0 := by omega
       have hnil : flat new (m ()) = [] := by rw [hm0]; rfl
       have hr := el.run.ain (w' := w) (sLen := len ()) (sCap := len () + ext ()) (base := slAddr (bases hp) hh a off len ext) hroom (by rw [hnil]; split <;> simp [storeCells])
       refine ⟨_, _, w, ?_, DenH.push0 (set_gone hp hh _ hc hd (a := ad) (n := cs.length) rfl) (d := .arr none (fun _ => len () + m ()) (fun _ => 0) both true) ⟨hbok, by first | omega | (dsimp only; omega), rfl, fun _ h => h⟩, ExtB.setPush hc rfl, hK none (slAddr (bases hp) hh a off len ext) 0 (by omega)⟩
       rw [sl_den, hr]
       have he0 : ext () = 0 := by omega
       simp [SV.den, hm0, hl0, he0]
      ·cases ad with
       | none =>
        have := hS.2.1; have := hS.2.2.1
        omega
       | some ad =>
        obtain ⟨hok, hsp, hlt, hca, hSx, hroomy⟩ := hS
        have hb1 := hbase ad rfl hempty
        have hcutAt := CellsAt.cut (m := len) hca (fun c hc => (hok c hc).1) h2
        have hfit : off () * cs.length + (len () + ext ()) * cs.length ≤ (n () + sp ()) * cs.length := by
         rw [← Nat.add_mul]; exact Nat.mul_le_mul_right _ (by omega)
        have hr2 := hroomy.sub (off () * cs.length) ((len () + ext ()) * cs.length) hfit
        have hnl : new.length = cs.length := by rw [el.len, hk]
        have hfit2 : (flat (cutCols off len cs) (len ())).length + (flat new (m ())).length ≤ (len () + ext ()) * cs.length := by
         rw [length_flat, length_flat, hlen2, hnl, ← Nat.add_mul]; exact Nat.mul_le_mul_right _ hroom
        obtain ⟨w', hst, e1, e2, e3, e4, e5, e6, e7⟩ := storeCells_end (P := Γ.P) (ad := ⟨ad.block, ad.off + off () * cs.length, none⟩) rfl hr2 _ _ hcutAt hfit2 (flat_mem el.ok)
        have hr := el.run.ain (w' := w') (sLen := len ()) (sCap := len () + ext ()) (base := slAddr (bases hp) hh a off len ext) hroom (by
         rw [hb1]
         simp only [add_none]
         rw [length_flat, hlen2] at hst
         rw [← hk]; exact hst)
        refine ⟨_, _, w', ?_, hd.move hc (c' := .gone (some ad) cs.length) (d := .arr (some ⟨ad.block, ad.off + off () * cs.length, none⟩) (fun _ => len () + m ()) (fun _ => ext () - m ()) both true) rfl e1 e2 e3 (by omega) ?_, ExtB.setPush hc rfl,
         hK (some ⟨ad.block, ad.off + off () * cs.length, none⟩) (slAddr (bases hp) hh a off len ext) (ext () - m ()) (by omega)⟩
        ·rw [sl_new' _ _ _ rfl _ _ _ _ _ _ (by simp) (by first | omega | (dsimp only; omega)), sl_den, hr, hb1]
         congr 2
         omega
        ·intro S2 hS2 hown
         obtain ⟨_, _, _, _, hSx2, _⟩ := hS2
         refine ⟨fun x hx hns => e5 x (fun e => hns ((hSx2 x).2 e)), fun _ => False, fun x => x = ad.block, fun _ h => h.elim, fun x hx => .inl ((hSx2 x).2 hx), fun _ h _ => h, fun _ h => h, hbok, rfl, by first | omega | (dsimp only; omega), ?_, ?_⟩
         ·simp only; rw [hfl]; exact e7
         ·simp only [if_true]
          refine ⟨fun _ => by simp, ?_⟩
          rw [hbl, show len () + m () + (ext () - m ()) = len () + ext () by omega]
          exact e6.to fun hp => plain_cut (plain_app hboth hp)
     ·have hold := firstCells_arr (Γ := Γ) (a := a) (a2 := a) (ext := ext) (m := len) (holds_heap (w' := w.drew) hS rfl) hba hbk h2 (Nat.le_refl _)
      rw [hk] at hold
      have hr := el.run.aout (sLen := len ()) (sCap := len () + ext ()) hold (by omega) h4 (small _ h4)
      have hge := grownCap_ge w (len () + m ()) (len () + ext ()) e
      have hlen3 : (hp.set hh (.gone ad cs.length)).length = hp.length := by simp
      refine ⟨_, _, _, ?_, row_grown (e := e) (DenH.drew (set_gone hp hh _ hc hd (a := ad) (n := cs.length) rfl)) (n := fun _ => len () + m ()) (cap := grownCap w (len () + m ()) (len () + ext ()) e) hbok (by rw [hbl, hz, hk]) hge hfl.symm, ExtB.setPush hc rfl,
       hK (some ⟨w.drew.heap.size, 0, none⟩) (some ⟨w.drew.heap.size, 0, none⟩) (grownCap w (len () + m ()) (len () + ext ()) e - (len () + m ())) (by omega)⟩
      rw [sl_new' _ _ _ rfl _ _ _ _ _ _ hlen3 (by first | omega | (dsimp only; omega)), sl_den, hr]
      simp only [World.size_drew, append_toArray3]
      congr 2
      omega
    | new h =>
     obtain ⟨h1, h2, h3, h4⟩ := h.l
     have hK := h.r
     have el := hel h1
     have hcut := cut_len (m := len) hS.1 h2
     have hbok : Cols.ok both (len () + m ()) := app_ok hboth hcut el.ok
     have hbl : both.length = cs.length := by have := (appCols_vals hboth).1; simpa [cutCols_eq] using this
     have hfl : flat both (len () + m ()) = flat (cutCols off len cs) (len ()) ++ flat new (m ()) := flat_app hboth (fun c hc => (hcut c hc).1) (fun c hc => (el.ok c hc).1)
     have hold := firstCells_arr (Γ := Γ) (a := a) (a2 := a) (ext := ext) (m := len) (holds_heap (w' := w.drew) hS rfl) hba hbk h2 (Nat.le_refl _)
     rw [hk] at hold
     have hr := el.run.aout (sLen := len ()) (sCap := len () + ext ()) hold (by omega) h4 (small _ h4)
     have hge := grownCap_ge w (len () + m ()) (len () + ext ()) e
     refine ⟨_, _, _, ?_, row_grown (e := e) (DenH.drew hd) (n := fun _ => len () + m ()) (cap := grownCap w (len () + m ()) (len () + ext ()) e) hbok (by rw [hbl, hz, hk]) hge hfl.symm, ExtB.push _ _,
      hK (some ⟨w.drew.heap.size, 0, none⟩) (grownCap w (len () + m ()) (len () + ext ()) e - (len () + m ()))⟩
     rw [sl_new' _ _ _ rfl _ _ _ _ _ _ rfl (by first | omega | (dsimp only; omega)), sl_den, hr]
     simp only [World.size_drew, append_toArray3]
     congr 2
     omega
    | inn h =>
     split at h
     ·rename_i cs' hov
      obtain ⟨h1, h2, h3⟩ := h.l
      have hK := h.r
      have el := hel h1
      have hnl : new.length = cs.length := by rw [el.len, hk]
      have hcl : cs'.length = cs.length := (overCols_vals hov).1
      have hokv : Cols.ok cs' (n ()) := over_ok hov hS.1 el.ok (by simpa [Nat.add_assoc] using h3)
      have hfo : flat cs' (n ()) = overC (flat cs (n ())) ((off () + len ()) * cs.length) (flat new (m ())) := flat_over hov (fun c hc => (hS.1 c hc).1) (fun c hc => (el.ok c hc).1) (by simpa [Nat.add_assoc] using h3)
      by_cases hm0 : m () = 0
      ·
       have hnil : flat new (m ()) = [] := by rw [hm0]; rfl
       have hr := el.run.ain (w' := w) (sLen := len ()) (sCap := len () + ext ()) (base := slAddr (bases hp) hh a off len ext) (by omega) (by rw [hnil]; split <;> simp [storeCells])
       have hsame : flat cs' (n ()) = flat cs (n ()) := by rw [hfo, hm0, flat0]; simp [overC]
       refine ⟨_, _, w, ?_, hd.weak hc (c' := .arr ad n sp cs' true) (by simp [Ch.base, hcl]) ?_, ExtB.of_eq (bases_set hc (by simp [Ch.base, hcl])), hK⟩
       ·rw [bases_set hc (by simp [Ch.base, hcl]), sl_den, hr]
        simp only [SV.den, hm0, slAddr, Nat.add_zero, Nat.sub_zero]
       ·intro S2 hS2
        refine ⟨S2, fun _ h => h, hokv, ?_⟩
        obtain ⟨_, hS2⟩ := hS2
        cases ad with
        | none => exact hS2
        | some ad =>
         rw [hsame, hcl]
         simp only [if_true] at hS2 ⊢
         exact ⟨hS2.1, hS2.2.1, hS2.2.2.1, hS2.2.2.2.1, hS2.2.2.2.2.to (plain_over hov)⟩
      ·have hempty : len () + ext () ≠ 0 := by omega
       cases ad with
       | none =>
        have := hS.2.1; have := hS.2.2.1
        omega
       | some ad =>
        obtain ⟨hok, hsp, hlt, hca, hSx, hroomy⟩ := hS
        have hb1 := hbase ad rfl hempty
        have hmle := Nat.mul_le_mul_right cs.length h3
        have hfit : (off () + len ()) * cs.length + (flat new (m ())).length ≤ (flat cs (n ())).length := by rw [length_flat, length_flat, hnl, ← Nat.add_mul]; exact hmle
        have hfit2 : (off () + len ()) * cs.length + (flat new (m ())).length ≤ (n () + sp ()) * cs.length := by
         rw [length_flat cs] at hfit
         rw [Nat.add_mul (n ())]; omega
        obtain ⟨w', hst, e1, e2, e3, e4, e5, e6, e7⟩ := storeCells_at (P := Γ.P) (ad := ad) hsp hroomy _ _ hfit2 (flat_mem el.ok)
        have hr := el.run.ain (w' := w') (sLen := len ()) (sCap := len () + ext ()) (base := slAddr (bases hp) hh a off len ext) (by omega) (by
         rw [hb1]
         simp only [add_none]
         rw [Nat.add_mul, ← Nat.add_assoc] at hst
         rw [← hk]; exact hst)
        refine ⟨_, _, w', ?_, hd.upd hc (c' := .arr (some ad) n sp cs' true) (by simp [Ch.base, hcl]) e1 e2 e3 e4 ?_, ExtB.of_eq (bases_set hc (by simp [Ch.base, hcl])), hK⟩
        ·rw [bases_set hc (by simp [Ch.base, hcl]), sl_den, hr, sl_den]
         have e8 : len () + m () + (ext () - m ()) = len () + ext () := by omega
         rw [slAddr_pos (len := fun _ => len () + m ()) (ext := fun _ => ext () - m ()) (by first | omega | (dsimp only; omega)), slAddr_pos hempty, e8]
        ·intro S2 hS2 hown
         obtain ⟨_, _, _, _, hSx2, _⟩ := hS2
         refine ⟨fun x hns => e5 x (fun e => hns ((hSx2 x).2 e)), S2, fun _ h => h, hokv, hsp, by omega, ?_, ?_⟩
         ·rw [hfo]; exact e7 _ hca hfit
         ·simp only [if_true]; rw [hcl]; exact ⟨hSx2, e6.to (plain_over hov)⟩
     ·exact h.elim
    | ext h =>
     split at h
     ·rename_i cs' hov
      obtain ⟨h1, h2, h3, h4⟩ := h.l
      have hK := h.r
      have el := hel h1
      have hnl : new.length = cs.length := by rw [el.len, hk]
      have hcl : cs'.length = cs.length := (appCols_vals hov).1
      have hokv : Cols.ok cs' (n () + m ()) := app_ok hov hS.1 el.ok
      have hfo : flat cs' (n () + m ()) = flat cs (n ()) ++ flat new (m ()) := flat_app hov (fun c hc => (hS.1 c hc).1) (fun c hc => (el.ok c hc).1)
      by_cases hm0 : m () = 0
      ·
       have hnil : flat new (m ()) = [] := by rw [hm0]; rfl
       have hr := el.run.ain (w' := w) (sLen := len ()) (sCap := len () + ext ()) (base := slAddr (bases hp) hh a off len ext) (by omega) (by rw [hnil]; split <;> simp [storeCells])
       have hsame : flat cs' (n () + m ()) = flat cs (n ()) := by rw [hfo, hm0, flat0, List.append_nil]
       refine ⟨_, _, w, ?_, hd.weak hc (c' := .arr ad (fun _ => n () + m ()) (fun _ => sp () - m ()) cs' true) (by simp [Ch.base, hcl]) ?_, ExtB.of_eq (bases_set hc (by simp [Ch.base, hcl])), hK⟩
       ·rw [bases_set hc (by simp [Ch.base, hcl]), sl_den, hr]
        simp only [SV.den, hm0, slAddr, Nat.add_zero, Nat.sub_zero]
       ·intro S2 hS2
        refine ⟨S2, fun _ h => h, hokv, ?_⟩
        obtain ⟨_, hS2⟩ := hS2
        cases ad with
        | none => exact ⟨by first | omega | (dsimp only; omega), by first | omega | (dsimp only; omega), hS2.2.2⟩
        | some ad =>
         simp only
         rw [hsame, hcl, hm0]
         simp only [if_true] at hS2 ⊢
         exact ⟨hS2.1, hS2.2.1, hS2.2.2.1, hS2.2.2.2.1, hS2.2.2.2.2.to (plain_app hov)⟩
      ·have hempty : len () + ext () ≠ 0 := by omega
       cases ad with
       | none =>
        have := hS.2.1; have := hS.2.2.1
        omega
       | some ad =>
        obtain ⟨hok, hsp, hlt, hca, hSx, hroomy⟩ := hS
        have hb1 := hbase ad rfl hempty
        have hfit : (flat cs (n ())).length + (flat new (m ())).length ≤ (n () + sp ()) * cs.length := by
         rw [length_flat, length_flat, hnl, ← Nat.add_mul]; exact Nat.mul_le_mul_right _ (by omega)
        obtain ⟨w', hst, e1, e2, e3, e4, e5, e6, e7⟩ := storeCells_end (P := Γ.P) (ad := ad) hsp hroomy _ _ hca hfit (flat_mem el.ok)
        have hr := el.run.ain (w' := w') (sLen := len ()) (sCap := len () + ext ()) (base := slAddr (bases hp) hh a off len ext) (by omega) (by
         rw [hb1]
         simp only [add_none]
         rw [length_flat, ← h3, Nat.add_mul, ← Nat.add_assoc] at hst
         rw [← hk]; exact hst)
        refine ⟨_, _, w', ?_, hd.upd hc (c' := .arr (some ad) (fun _ => n () + m ()) (fun _ => sp () - m ()) cs' true) (by simp [Ch.base, hcl]) e1 e2 e3 e4 ?_, ExtB.of_eq (bases_set hc (by simp [Ch.base, hcl])), hK⟩
        ·rw [bases_set hc (by simp [Ch.base, hcl]), sl_den, hr, sl_den]
         have e8 : len () + m () + (ext () - m ()) = len () + ext () := by omega
         rw [slAddr_pos (len := fun _ => len () + m ()) (ext := fun _ => ext () - m ()) (by first | omega | (dsimp only; omega)), slAddr_pos hempty, e8]
        ·intro S2 hS2 hown
         obtain ⟨_, _, _, _, hSx2, _⟩ := hS2
         refine ⟨fun x hns => e5 x (fun e => hns ((hSx2 x).2 e)), S2, fun _ h => h, hokv, hsp, by omega, ?_, ?_⟩
         ·rw [hfo]; exact e7
         ·simp only [if_true]
          rw [hcl, show n () + m () + (sp () - m ()) = n () + sp () by omega]
          exact ⟨hSx2, e6.to (plain_app hov)⟩
     ·exact h.elim
   ·exact h.elim
  ·exact h.elim
 ·exact h.elim
theorem sApp_ok {Γ : Ctx} {hp : List Ch} {w : World} {bytes : Nat} {cts : List CT} {x y : SV} {K : KV} (h : sApp bytes cts hp x y K) (hd : DenH Γ hp w) {sT xT ty e : Nat} {z : List Value} (ht : Γ.P.underlying sT = some (.slice e))
  (he : TI Γ.P e cts.length bytes z) (hz : z.length = cts.length) (hb : 0 < bytes) (hx : notInt Γ.P xT) : RunE Γ hp w (Builtin.append_ #[sT, xT] ty #[x.den (bases hp), y.den (bases hp)]) K := by
 unfold sApp at h
 obtain ⟨m, new, hm, h, hlen, hel⟩ := elems_ok h hd
 refine sAppE_ok (e := e) h hd hz hb fun h1 => ?_
 have el := hel h1
 exact ⟨el.len, el.ok, ⟨fun hroom hst => run_append_in ht he hx hlen (el.run w rfl) hroom hst, fun ho hroom hby hsm => run_append_out ht he hx hlen (el.run w.drew rfl) ho hroom hby hsm⟩⟩
theorem sAppz_ok {Γ : Ctx} {hp : List Ch} {w : World} {bytes : Nat} {cts : List CT} {x y : SV} {K : KV} (h : sAppz bytes cts hp x y K) (hd : DenH Γ hp w) {sT xT ty e : Nat} {z : List Value} (ht : Γ.P.underlying sT = some (.slice e))
  (he : TI Γ.P e cts.length bytes z) (hz : z = cts.map CT.z) (hb : 0 < bytes) (h1 : ∀ c ∈ cts, c.z.oneCell' = true) {kx : IntKind} (hx : Γ.P.underlying xT = some (.int kx)) :
  RunE Γ hp w (Builtin.append_ #[sT, xT] ty #[x.den (bases hp), y.den (bases hp)]) K := by
 unfold sAppz at h
 split at h
 ·rename_i ky n
  have hzl : z.length = cts.length := by rw [hz]; simp
  refine sAppE_ok (e := e) h hd hzl hb fun hm => ?_
  obtain ⟨m1, m2⟩ := hm
  obtain ⟨i, v, hi1, hi2, hi3, hi4, hi5⟩ := he.h
  have hle : (n ()).toNat ≤ 140737488355328 := by
   have := Nat.mul_le_mul_left (n ()).toNat (show 1 ≤ bytes from hb)
   omega
  have hnn : ((n ()).toNat : Int) = n () := Int.toNat_of_nonneg m1
  have hw : IntKind.i64.wrap (n ()) = n () := wrap_id ⟨by omega, by omega⟩
  have hn0 : ¬ n () < 0 := by omega
  have hmul : ¬ (281474976710656 < n () * (i.bytes : Int)) := by
   rw [hi3, ← hnn]
   have : (((n ()).toNat * bytes : Nat) : Int) ≤ 140737488355328 := by omega
   rw [Int.natCast_mul] at this
   omega
  have hzv : ∀ w, (zeroValue e).run Γ.P w = .ok v w := fun w => by simp [zeroValue, typeInfo, hi1, hi4]
  have hcells : v.cells = z.toArray := by rw [← hi5]
  have hsz := fun w => he.sizeOf w
  have hfl : flat (zeroCols (fun _ => (n ()).toNat) cts) (n ()).toNat = (Builtin.zeroCells z.toArray (n ()).toNat).toList := by
   rw [hz]; exact flat_zero (fun _ => (n ()).toNat) cts
  have hnil : (n ()).toNat * cts.length = 0 → Builtin.zeroCells z.toArray (n ()).toNat = #[] := by
   intro h0
   apply Array.eq_empty_of_size_eq_zero
   simp only [size_zeroCells, List.size_toArray, hzl]
   exact h0
  refine ⟨by simp [zeroCols_eq], zero_ok (fun _ => (n ()).toNat) h1, ⟨?_, ?_⟩⟩
  ·intro w' sLen sCap base hroom hst
   rw [hfl] at hst
   unfold Builtin.append_
   by_cases h0 : (n ()).toNat * cts.length = 0
   ·rw [hnil h0] at hst
    cases base with
    | none =>
     subst hst
     simp [run_underlying ht, run_underlying hx, hsz, SV.den, asInt, asIntOf, hw, hn0, typeInfo, hi1, hmul, hroom, h0]
    | some a =>
     simp only [storeCells] at hst
     simp [run_underlying ht, run_underlying hx, hsz, SV.den, asInt, asIntOf, hw, hn0, typeInfo, hi1, hmul, hroom, h0, storeCells]
     simpa using hst
   ·cases base with
    | none =>
     subst hst
     simp [run_underlying ht, run_underlying hx, hsz, SV.den, asInt, asIntOf, hw, hn0, typeInfo, hi1, hmul, hroom, h0, hzv]
    | some a =>
     simp [run_underlying ht, run_underlying hx, hsz, SV.den, asInt, asIntOf, hw, hn0, typeInfo, hi1, hmul, hroom, h0, hzv, hcells, hst]
  ·intro sLen sCap base old ho hroom hby hsm
   have hn : ¬ (sLen + (n ()).toNat ≤ sCap) := by omega
   have h63 : ¬ ((9223372036854775807 : Int) < (sLen : Int) + ((n ()).toNat : Int)) := by omega
   have h63' : ¬ ((9223372036854775807 : Int) < (sLen : Int) + max (n ()) 0) := by omega
   have hfit : ¬ (281474976710656 < Builtin.nextslicecap (sLen + (n ()).toNat) sCap * i.bytes) := by rw [hi3]; have := growslice_fits hroom hby; omega
   have hfl' : (flat (zeroCols (fun _ => (n ()).toNat) cts) (n ()).toNat).toArray = Builtin.zeroCells z.toArray (n ()).toNat := by rw [hfl]
   rw [hfl']
   unfold Builtin.append_ grownCap
   by_cases h0 : (n ()).toNat * cts.length = 0
   ·rw [hnil h0]
    by_cases hbg : (Question.appendCap (sLen + (n ()).toNat) sCap e).cut (w.tape w.drawn (.appendCap (sLen + (n ()).toNat) sCap e)) * i.bytes > 140737488355328 <;>
     simp [run_underlying ht, run_underlying hx, hsz, SV.den, asInt, asIntOf, hw, hn0, typeInfo, hi1, hmul, hn, h0, h63, h63', hfit, Question.forced, askRoom, roomBytes, hbg, ho, hzv, hcells, newRow]
   ·by_cases hbg : (Question.appendCap (sLen + (n ()).toNat) sCap e).cut (w.tape w.drawn (.appendCap (sLen + (n ()).toNat) sCap e)) * i.bytes > 140737488355328 <;>
     simp [run_underlying ht, run_underlying hx, hsz, SV.den, asInt, asIntOf, hw, hn0, typeInfo, hi1, hmul, hn, h0, h63, h63', hfit, Question.forced, askRoom, roomBytes, hbg, ho, hzv, hcells, newRow]
 ·exact h.elim
end Go.Proofs.YtfoffehokhkohaaGreat
namespace Go.Proofs.YtfoffehokhkohaaGreat
open Go
theorem run_copy {P : Program} {w w' : World} {dT sT ty e size bytes m dLen dCap : Nat} {z : List Value} {base : Option Addr} {x : Value} {new : List Value} (ht : P.underlying dT = some (.slice e)) (he : TI P e size bytes z)
  (hm : (Builtin.lenOf x).run P w = .ok m w) (hf : (Builtin.firstCells size (Nat.min m dLen) x).run P w = .ok new.toArray w)
  (hst : match base with | some a => (storeCells a new).run P w = .ok () w' | none => w' = w) :
  (Builtin.copy_ #[dT, sT] ty #[.slice base dLen dCap, x]).run P w = .ok (.int .i64 (Nat.min m dLen : Nat)) w' := by
 unfold Builtin.copy_
 cases base with
 | none =>
  subst hst
  simp only [Nat.min_def] at hf ⊢
  simp [run_underlying ht, he.sizeOf, hm, hf, goInt, Nat.min_def]
 | some a =>
  simp only [Nat.min_def] at hf ⊢
  simp [run_underlying ht, he.sizeOf, hm, hf, hst, goInt, Nat.min_def]
theorem store_nil {P : Program} {w : World} (base : Option Addr) : match base with | some a => (storeCells a ([] : List Value)).run P w = .ok () w | none => w = w := by
 cases base <;> simp [storeCells]
theorem over_upd {Γ : Ctx} {hp : List Ch} {w : World} {hh : Nat} {a ad : Option Addr} {off len ext n sp : Th Nat} {cs cs' ds : List Col} {k : Nat} (hd : DenH Γ hp w) (hc : hp[hh]? = some (.arr ad n sp cs true)) (hba : baseA (bases hp) hh = ad) (hbk : baseK (bases hp) hh = cs.length)
  (hov : overCols off cs ds = some cs') (hds : Cols.ok ds k) (hle : off () + k ≤ n ()) (hkl : k ≤ len ()) (at_ : Th (Option Addr)) :
  ∃ w', (match slAddr (bases hp) hh at_ off len ext with | some a => (storeCells a (flat ds k)).run Γ.P w = .ok () w' | none => w' = w) ∧ DenH Γ (hp.set hh (.arr ad n sp cs' true)) w' ∧ ExtB hp (hp.set hh (.arr ad n sp cs' true)) := by
 obtain ⟨S, hS⟩ := hd.at hc
 have hcl : cs'.length = cs.length := (overCols_vals hov).1
 have hdl : ds.length = cs.length := (overCols_vals hov).2.1
 have hokv : Cols.ok cs' (n ()) := over_ok hov hS.1 hds hle
 have hfo : flat cs' (n ()) = overC (flat cs (n ())) (off () * cs.length) (flat ds k) := flat_over hov (fun c hc => (hS.1 c hc).1) (fun c hc => (hds c hc).1) hle
 have hx : ExtB hp (hp.set hh (.arr ad n sp cs' true)) := ExtB.of_eq (bases_set hc (by simp [Ch.base, hcl]))
 by_cases h0 : k = 0
 ·subst h0
  refine ⟨w, by rw [flat0]; exact store_nil _, hd.weak hc (by simp [Ch.base, hcl]) ?_, hx⟩
  intro S2 hS2
  have hsame : flat cs' (n ()) = flat cs (n ()) := by rw [hfo, flat0]; simp [overC]
  refine ⟨S2, fun _ h => h, hokv, ?_⟩
  obtain ⟨_, hS2⟩ := hS2
  cases ad with
  | none => exact hS2
  | some ad =>
   rw [hsame, hcl]
   simp only [if_true] at hS2 ⊢
   exact ⟨hS2.1, hS2.2.1, hS2.2.2.1, hS2.2.2.2.1, hS2.2.2.2.2.to (plain_over hov)⟩
 ·cases ad with
  | none => have := hS.2.1; omega
  | some ad =>
   obtain ⟨hok, hsp, hlt, hca, hSx, hroomy⟩ := hS
   have hmle := Nat.mul_le_mul_right cs.length hle
   have hfit : off () * cs.length + (flat ds k).length ≤ (flat cs (n ())).length := by rw [length_flat, length_flat, hdl, ← Nat.add_mul]; exact hmle
   have hfit2 : off () * cs.length + (flat ds k).length ≤ (n () + sp ()) * cs.length := by
    rw [length_flat cs] at hfit
    rw [Nat.add_mul (n ())]; omega
   obtain ⟨w', hst, e1, e2, e3, e4, e5, e6, e7⟩ := storeCells_at (P := Γ.P) (ad := ad) hsp hroomy _ _ hfit2 (flat_mem hds)
   refine ⟨w', ?_, hd.upd hc (by simp [Ch.base, hcl]) e1 e2 e3 e4 ?_, hx⟩
   ·rw [slAddr_pos (by omega), hba, hbk]
    simpa using hst
   ·intro S2 hS2 hown
    obtain ⟨_, _, _, _, hSx2, _⟩ := hS2
    refine ⟨fun x hns => e5 x (fun e => hns ((hSx2 x).2 e)), S2, fun _ h => h, hokv, hsp, by omega, ?_, ?_⟩
    ·rw [hfo]; exact e7 _ hca hfit
    ·simp only [if_true]; rw [hcl]; exact ⟨hSx2, e6.to (plain_over hov)⟩
theorem cut0_at {w : World} {ad : Addr} {cs : List Col} {n : Nat} {off : Th Nat} (h : CellsAt w ad (flat cs n)) (hc : ∀ c ∈ cs, c.vals.length = n) (hm : off () ≤ n) : CellsAt w ad (flat (cutCols (fun _ => 0) off cs) (off ())) := by
 have := CellsAt.cut (off := fun _ => 0) (m := off) h hc (by first | omega | (dsimp only; omega))
 intro q v hv
 have := this q v hv
 simpa using this
theorem over_ext {Γ : Ctx} {hp : List Ch} {w : World} {hh : Nat} {ad : Option Addr} {off len ext n sp : Th Nat} {cs both ds : List Col} {k : Nat} (hd : DenH Γ hp w) (hc : hp[hh]? = some (.arr ad n sp cs true)) (hba : baseA (bases hp) hh = ad) (hbk : baseK (bases hp) hh = cs.length)
  (hboth : appCols (cutCols (fun _ => 0) off cs) ds = some both) (hds : Cols.ok ds k) (h1 : off () ≤ n ()) (h3 : off () + k ≤ n () + sp ()) (hkl : k ≤ len ()) (at_ : Th (Option Addr)) :
  ∃ w', (match slAddr (bases hp) hh at_ off len ext with | some a => (storeCells a (flat ds k)).run Γ.P w = .ok () w' | none => w' = w) ∧ DenH Γ (hp.set hh (.arr ad (fun _ => off () + k) (fun _ => n () + sp () - (off () + k)) both true)) w' ∧
   ExtB hp (hp.set hh (.arr ad (fun _ => off () + k) (fun _ => n () + sp () - (off () + k)) both true)) := by
 obtain ⟨S, hS⟩ := hd.at hc
 have hcc : (cutCols (fun _ => 0) off cs).length = cs.length := by simp [cutCols_eq]
 have hcl : both.length = cs.length := (appCols_vals hboth).1.trans hcc
 have hdl : ds.length = cs.length := (appCols_vals hboth).2.1.trans hcc
 have hcut : Cols.ok (cutCols (fun _ => 0) off cs) (off ()) := cut_len (off := fun _ => 0) (m := off) hS.1 (by first | omega | (dsimp only; omega))
 have hokv : Cols.ok both (off () + k) := app_ok hboth hcut hds
 have hfo : flat both (off () + k) = flat (cutCols (fun _ => 0) off cs) (off ()) ++ flat ds k := flat_app hboth (fun c hc => (hcut c hc).1) (fun c hc => (hds c hc).1)
 have hpl : plain both = true → plain cs = true := fun h => plain_cut (plain_app hboth h)
 have hx : ExtB hp (hp.set hh (.arr ad (fun _ => off () + k) (fun _ => n () + sp () - (off () + k)) both true)) := ExtB.of_eq (bases_set hc (by simp [Ch.base, hcl]))
 by_cases h0 : k = 0
 ·subst h0
  refine ⟨w, by rw [flat0]; exact store_nil _, hd.weak hc (by simp [Ch.base, hcl]) ?_, hx⟩
  intro S2 hS2
  refine ⟨S2, fun _ h => h, hokv, ?_⟩
  obtain ⟨hok2, hS2⟩ := hS2
  cases ad with
  | none => exact ⟨by have := hS2.1; first | omega | (dsimp only; omega), by have := hS2.1; have := hS2.2.1; first | omega | (dsimp only; omega), hS2.2.2⟩
  | some ad =>
   simp only [if_true] at hS2 ⊢
   refine ⟨hS2.1, hS2.2.1, ?_, hS2.2.2.2.1, ?_⟩
   ·rw [hfo, flat0, List.append_nil]
    exact cut0_at hS2.2.2.1 (fun c hc => (hok2 c hc).1) h1
   ·have := (hS2.2.2.2.2.to hpl)
    rw [hcl, show off () + 0 + (n () + sp () - (off () + 0)) = n () + sp () by omega]
    exact this
 ·cases ad with
  | none => have := hS.2.1; have := hS.2.2.1; omega
  | some ad =>
   obtain ⟨hok, hsp, hlt, hca, hSx, hroomy⟩ := hS
   have hfit : (flat (cutCols (fun _ => 0) off cs) (off ())).length + (flat ds k).length ≤ (n () + sp ()) * cs.length := by
    rw [length_flat, length_flat, hcc, hdl, ← Nat.add_mul]; exact Nat.mul_le_mul_right _ h3
   obtain ⟨w', hst, e1, e2, e3, e4, e5, e6, e7⟩ := storeCells_end (P := Γ.P) (ad := ad) hsp hroomy _ _ (cut0_at (off := off) hca (fun c hc => (hok c hc).1) h1) hfit (flat_mem hds)
   refine ⟨w', ?_, hd.upd hc (by simp [Ch.base, hcl]) e1 e2 e3 e4 ?_, hx⟩
   ·rw [slAddr_pos (by omega), hba, hbk]
    rw [length_flat, hcc] at hst
    simpa using hst
   ·intro S2 hS2 hown
    obtain ⟨_, _, _, _, hSx2, _⟩ := hS2
    refine ⟨fun x hns => e5 x (fun e => hns ((hSx2 x).2 e)), S2, fun _ h => h, hokv, hsp, by omega, ?_, ?_⟩
    ·rw [hfo]; exact e7
    ·simp only [if_true]
     rw [hcl, show off () + k + (n () + sp () - (off () + k)) = n () + sp () by omega]
     exact ⟨hSx2, e6.to hpl⟩
theorem firstCells_zero {P : Program} {w : World} (size : Nat) (bs : List Base) (y : SV) (hy : (match y with | .nils => True | .sl .. => True | .str _ => True | _ => False)) :
  (∃ m, (Builtin.lenOf (y.den bs)).run P w = .ok m w) ∧ (Builtin.firstCells size 0 (y.den bs)).run P w = .ok ([] : List Value).toArray w := by
 cases y <;> first | exact hy.elim | skip
 ·refine ⟨⟨_, by simp only [SV.den, Builtin.lenOf, Sem.run_pure]; rfl⟩, by simp [SV.den, Builtin.firstCells, extract_toArray]⟩
 ·rename_i h a off len ext
  refine ⟨⟨len (), by simp [sl_den, Builtin.lenOf]⟩, ?_⟩
  rw [sl_den]
  cases slAddr bs h a off len ext <;> simp [Builtin.firstCells, loadCells, loadCellsFrom]
 ·refine ⟨⟨_, by simp only [SV.den, Builtin.lenOf, Sem.run_pure]; rfl⟩, by simp [SV.den, Builtin.firstCells]⟩
theorem sCopy_ok {Γ : Ctx} {hp : List Ch} {w : World} {k : Nat} {x y : SV} {K : KV} (h : sCopy k hp x y K) (hd : DenH Γ hp w) {dT sT ty e bytes : Nat} {z : List Value} (ht : Γ.P.underlying dT = some (.slice e))
  (he : TI Γ.P e k bytes z) : RunE Γ hp w (Builtin.copy_ #[dT, sT] ty #[x.den (bases hp), y.den (bases hp)]) K := by
 unfold sCopy at h
 have nothing : ∀ (y : SV), (match y with | .nils => True | .sl .. => True | .str _ => True | _ => False) → K (.int .i64 fun _ => 0) hp → RunE Γ hp w (Builtin.copy_ #[dT, sT] ty #[SV.nils.den (bases hp), y.den (bases hp)]) K := by
  intro y hy hK
  obtain ⟨⟨m, hm⟩, hf⟩ := firstCells_zero (P := Γ.P) (w := w) k (bases hp) y hy
  refine RunE.same hd ?_ hK
  simp only [SV.den]
  have := run_copy (w := w) (w' := w) (sT := sT) (ty := ty) (dLen := 0) (dCap := 0) (base := none) ht he hm (by rw [show Nat.min m 0 = 0 by simp]; exact hf) rfl
  rw [this]
  simp
 split at h
 ·split at h
  ·exact nothing _ trivial h
  ·exact nothing _ trivial h
  ·exact nothing _ trivial h
  ·exact h.elim
 ·rename_i hh a off len ext
  split at h
  ·rename_i ad n sp cs hc
   obtain ⟨hba, hbk⟩ := base_at hc
   rw [nth_eq] at hc
   split at h
   ·rename_i hk
    have hk := Nat.eq_of_beq_eq_true hk
    split at h
    ·refine RunE.same hd ?_ h
     obtain ⟨⟨m, hm⟩, hf⟩ := firstCells_zero (P := Γ.P) (w := w) k (bases hp) .nils trivial
     have hm0 : (Builtin.lenOf (SV.nils.den (bases hp))).run Γ.P w = .ok 0 w := by simp [SV.den, Builtin.lenOf]
     rw [sl_den]
     have := run_copy (w := w) (w' := w) (sT := sT) (ty := ty) (dLen := len ()) (dCap := len () + ext ()) (base := slAddr (bases hp) hh a off len ext) ht he hm0 (by rw [show Nat.min 0 (len ()) = 0 by simp]; exact hf) (store_nil _)
     rw [this]
     simp [SV.den]
    ·rename_i s
     split at h
     ·rename_i cs' hov
      have hle := h.l
      have hmin1 : Nat.min (s ()).length (len ()) ≤ (s ()).length := Nat.min_le_left _ _
      have hmin2 : Nat.min (s ()).length (len ()) ≤ len () := Nat.min_le_right _ _
      have hds : Cols.ok [.b8 fun _ => (s ()).take (Nat.min (s ()).length (len ()))] (Nat.min (s ()).length (len ())) := by
       have := b8_ok (fun _ => (s ()).take (Nat.min (s ()).length (len ())))
       rwa [List.length_take, Nat.min_eq_left hmin1] at this
      obtain ⟨w', hst, hd', hx⟩ := over_upd (ext := ext) (len := len) (a := ad) hd hc hba hbk hov hds hle hmin2 a
      refine ⟨_, _, w', ?_, hd', hx, h.r⟩
      have hm : (Builtin.lenOf ((SV.str s).den (bases hp))).run Γ.P w = .ok (s ()).length w := by simp [SV.den, Builtin.lenOf, size_mk]
      have hf : (Builtin.firstCells k (Nat.min (s ()).length (len ())) ((SV.str s).den (bases hp))).run Γ.P w = .ok (flat [.b8 fun _ => (s ()).take (Nat.min (s ()).length (len ()))] (Nat.min (s ()).length (len ()))).toArray w := by
       rw [flat_one _ _ (hds _ (by simp)).1]
       simp [SV.den, Builtin.firstCells, Col.vals, extract_toArray]
      rw [sl_den]
      have := run_copy (w := w) (w' := w') (sT := sT) (ty := ty) (dLen := len ()) (dCap := len () + ext ()) ht he hm hf hst
      rw [this]
      simp [SV.den, toI]
     ·exact h.elim
    ·rename_i h2 a2 off2 len2 ext2
     split at h
     ·rename_i ad2 n2 sp2 cs2 ex2 hc2
      obtain ⟨hba2, hbk2⟩ := base_at hc2
      rw [nth_eq] at hc2
      cases h with
      | inn h =>
       split at h
       ·rename_i cs' hov
        obtain ⟨hl2, hl1⟩ := h.l
        obtain ⟨S2, hS2⟩ := hd.at hc2
        have hmin1 : Nat.min (len2 ()) (len ()) ≤ len2 () := Nat.min_le_left _ _
        have hmin2 : Nat.min (len2 ()) (len ()) ≤ len () := Nat.min_le_right _ _
        have hcsl : cs2.length = cs.length := by have := (overCols_vals hov).2.1; simpa [cutCols_eq] using this
        have hds := cut_len (off := off2) (m := fun _ => Nat.min (len2 ()) (len ())) hS2.1 hl2
        have hf := firstCells_arr (Γ := Γ) (a := a2) (a2 := a2) (ext := ext2) (len := len2) (m := fun _ => Nat.min (len2 ()) (len ())) hS2 hba2 hbk2 hl2 hmin1
        rw [hcsl, hk] at hf
        obtain ⟨w', hst, hd', hx⟩ := over_upd (ext := ext) (len := len) (a := ad) hd hc hba hbk hov hds hl1 hmin2 a
        refine ⟨_, _, w', ?_, hd', hx, h.r⟩
        have hm : (Builtin.lenOf (.slice (slAddr (bases hp) h2 a2 off2 len2 ext2) (len2 ()) (len2 () + ext2 ()))).run Γ.P w = .ok (len2 ()) w := by simp [Builtin.lenOf]
        rw [sl_den, sl_den]
        have := run_copy (w := w) (w' := w') (sT := sT) (ty := ty) (dLen := len ()) (dCap := len () + ext ()) ht he hm hf hst
        rw [this]
        simp [SV.den, toI]
       ·exact h.elim
      | ext h =>
       split at h
       ·rename_i both hov
        obtain ⟨hl2, hl1, hl3⟩ := h.l
        obtain ⟨S2, hS2⟩ := hd.at hc2
        have hmin1 : Nat.min (len2 ()) (len ()) ≤ len2 () := Nat.min_le_left _ _
        have hmin2 : Nat.min (len2 ()) (len ()) ≤ len () := Nat.min_le_right _ _
        have hcsl : cs2.length = cs.length := by have := (appCols_vals hov).2.1; simpa [cutCols_eq] using this
        have hds := cut_len (off := off2) (m := fun _ => Nat.min (len2 ()) (len ())) hS2.1 hl2
        have hf := firstCells_arr (Γ := Γ) (a := a2) (a2 := a2) (ext := ext2) (len := len2) (m := fun _ => Nat.min (len2 ()) (len ())) hS2 hba2 hbk2 hl2 hmin1
        rw [hcsl, hk] at hf
        obtain ⟨w', hst, hd', hx⟩ := over_ext (ext := ext) (len := len) hd hc hba hbk hov hds hl1 hl3 hmin2 a
        refine ⟨_, _, w', ?_, hd', hx, h.r⟩
        have hm : (Builtin.lenOf (.slice (slAddr (bases hp) h2 a2 off2 len2 ext2) (len2 ()) (len2 () + ext2 ()))).run Γ.P w = .ok (len2 ()) w := by simp [Builtin.lenOf]
        rw [sl_den, sl_den]
        have := run_copy (w := w) (w' := w') (sT := sT) (ty := ty) (dLen := len ()) (dCap := len () + ext ()) ht he hm hf hst
        rw [this]
        simp [SV.den, toI]
       ·exact h.elim
     ·exact h.elim
    ·exact h.elim
   ·exact h.elim
  ·exact h.elim
 ·exact h.elim
theorem sClear_ok {Γ : Ctx} {hp : List Ch} {w : World} {cts : List CT} {x : SV} {K : KV} (h : sClear cts hp x K) (hd : DenH Γ hp w) {t ty e bytes : Nat} {z : List Value} (ht : Γ.P.underlying t = some (.slice e))
  (he : TI Γ.P e cts.length bytes z) (hz : z = cts.map CT.z) (h1 : ∀ c ∈ cts, c.z.oneCell' = true) : RunE Γ hp w (Builtin.clear_ #[t] ty #[x.den (bases hp)]) K := by
 unfold sClear at h
 split at h
 ·refine RunE.same hd ?_ h
  simp [Builtin.clear_, run_underlying ht, SV.den, SV.denL]
 ·rename_i hh a off len ext
  split at h
  ·rename_i ad n sp cs hc
   obtain ⟨hba, hbk⟩ := base_at hc
   rw [nth_eq] at hc
   split at h
   ·rename_i cs' hov
    have hle := h.l
    obtain ⟨w', hst, hd', hx⟩ := over_upd (ext := ext) (len := len) (a := ad) hd hc hba hbk hov (zero_ok len h1) hle (Nat.le_refl _) a
    refine ⟨_, _, w', ?_, hd', hx, h.r⟩
    obtain ⟨v, hv, hvc⟩ := he.zero w
    rw [sl_den]
    rw [flat_zero] at hst
    have hvz : v.cells = (cts.map CT.z).toArray := by rw [← hz, ← hvc]
    unfold Builtin.clear_
    cases hb : slAddr (bases hp) hh a off len ext with
    | none =>
     rw [hb] at hst
     subst hst
     simp [run_underlying ht, SV.den, SV.denL]
    | some a' =>
     rw [hb] at hst
     cases hl : len () with
     | zero =>
      rw [hl] at hst
      have : w' = w := by
       have h2 : (Builtin.zeroCells (cts.map CT.z).toArray 0).toList = [] := by simp [Builtin.zeroCells]
       rw [h2] at hst
       simp [storeCells] at hst
       exact hst.symm
      subst this
      simp [run_underlying ht, SV.den, SV.denL]
     | succ q =>
      rw [hl] at hst
      simp [run_underlying ht, hv, hvz, hst, SV.den, SV.denL]
   ·exact h.elim
  ·exact h.elim
 ·exact h.elim
theorem sStoreA_ok {Γ : Ctx} {hp : List Ch} {w : World} {N : Nat} {x v : SV} {K : KV} (h : sStoreA N hp x v K) (hd : DenH Γ hp w) {t bytes : Nat} {z : List Value} (hi : TI Γ.P t N bytes z) :
  RunU Γ hp w (Instr.storeAt t (x.den (bases hp)) (v.den (bases hp))) K := by
 unfold sStoreA at h
 split at h
 ·rename_i hh i k' l'
  split at h
  ·rename_i ad n sp k l hc
   split at h
   ·rename_i hk
    have hk : k = k' := by simpa using hk
    subst hk
    obtain ⟨hl', hpos, hle⟩ := h.l
    obtain ⟨hba, hbk⟩ := base_at hc
    rw [nth_eq] at hc
    have hds : Cols.ok [.nat k l'] (l' ()).length := natcol_ok k l'
    have hov : overCols i [.nat k l] [.nat k l'] = some [.nat k fun _ => overC (l ()) (i ()) (l' ())] := by simp [overCols, Col.over]
    obtain ⟨w', hst, hd', hx⟩ := over_upd (ext := fun _ => 0) (len := fun _ => (l' ()).length + 1) (off := i) (a := ad) hd hc hba hbk hov hds (by omega) (by omega) (fun _ => none)
    refine ⟨_, w', ?_, hd', hx, h.r⟩
    rw [slAddr_pos (by simp), hba, hbk] at hst
    have hfl : flat [.nat k l'] (l' ()).length = (l' ()).map fun (n : Nat) => Value.int k n := by
     rw [flat_one _ _ (hds _ (by simp)).1]; rfl
    rw [hfl] at hst
    cases ad with
    | none =>
     obtain ⟨S, hS⟩ := hd.at hc
     have h0 := hS.2.1
     omega
    | some ad =>
     simp only [Ch.base, Option.map_some, List.length_singleton, Nat.mul_one] at hst
     simp only [SV.den, hba, hbk, Ch.base, Option.map_some, List.length_singleton, Nat.mul_one, Nat.add_zero]
     simp [Instr.storeAt, Instr.sureAddr, storeVar, hi.sizeOf, Value.cells, hl', hst]
   ·exact h.elim
  ·exact h.elim
 ·exact h.elim
end Go.Proofs.YtfoffehokhkohaaGreat
