/- Part 3 of what is proved in the last text (packed by a program of mine). -/
import Derived.Test.YtfoffehokhkohaaGreatK02
set_option linter.all false
namespace Go.Proofs.YtfoffehokhkohaaGreat
open Go
theorem bp_new (hp : List Ch) (b ty off : Nat) (l : List SV) : (SV.bp hp.length off).den (bases (hp ++ [.box b ty l true])) = .pointer (some ⟨b, off, none⟩) := by
 simp [SV.den, baseA, bases, Ch.base]
theorem ep_new (hp : List Ch) (b j : Nat) (i n sp : Th Nat) (cs : List Col) : (SV.ep hp.length i j).den (bases (hp ++ [.arr (some ⟨b, 0, none⟩) n sp cs true])) = .pointer (some ⟨b, i () * cs.length + j, none⟩) := by
 simp [SV.den, baseA, baseK, bases, Ch.base]
theorem svOfs_hs (l : List Value) (n : Nat) : SV.hsL n (svOfs l) = true := by
 induction l with
 | nil => rfl
 | cons v l ih => simp [svOfs, SV.hsL, svOf_hs, ih]
theorem push_box {Γ : Ctx} {hp : List Ch} {w : World} (hd : DenH Γ hp w) (ty : Nat) (l : List SV) (h1 : l.all SV.one = true) (h2 : SV.hsL hp.length l = true) :
  DenH Γ (hp ++ [.box w.heap.size ty l true]) (w.alloc (.cells (SV.denL (bases hp) l).toArray ty)) := by
 refine hd.push _ _ ?_
 refine ⟨?_, hsL_mono (by simp) l h2, h1, by simp⟩
 rw [heap_alloc_new, denL_ext _ _ l (by simpa using h2)]
theorem alloc_ok {Γ : Ctx} {hp : List Ch} {w : World} {ty : Nat} {z : List SV} {K : KV} (h : ∀ b : Nat, K (.bp hp.length 0) (hp ++ [.box b ty z true])) (hd : DenH Γ hp w) {size bytes : Nat} {cells : List Value}
  (hi : TI Γ.P ty size bytes cells) (hz : z = svOfs cells) (h1 : z.all SV.one = true) : RunE Γ hp w (Instr.alloc ty true (.tuple #[])) K := by
 obtain ⟨v, hv, hc⟩ := hi.zero w
 refine ⟨_, _, _, ?_, push_box hd ty z h1 (by rw [hz]; exact svOfs_hs _ _), ExtB.push _ _, h w.heap.size⟩
 rw [bp_new, hz, svOfs_den]
 subst hc
 simp [Instr.alloc, hv, newVar, newRow]
def isZ : CT → Value → Bool
 | .b8, .int .u8 n => n == 0
 | .nat k, .int k' n => k == k' && n == 0
 | .int, .int .i64 n => n == 0
 | .bool, .bool b => !b
 | .str, .string s => s.size == 0
 | _, _ => false
theorem isZ_eq {c : CT} {v : Value} (h : isZ c v = true) : v = c.z := by
 unfold isZ at h
 split at h <;> simp_all [CT.z]
theorem isZ_one {c : CT} {v : Value} (h : isZ c v = true) : c.z.oneCell' = true := by
 unfold isZ at h
 split at h <;> simp_all [CT.z, Value.oneCell']
theorem eq_replicate {c : CT} : ∀ {l : List Value}, l.all (isZ c) = true → l = List.replicate l.length c.z
 | [], _ => rfl
 | v :: l, h => by
  simp only [List.all_cons, Bool.and_eq_true] at h
  rw [List.length_cons, List.replicate_succ, ← eq_replicate h.2, ← isZ_eq h.1]
theorem allocA_ok {Γ : Ctx} {hp : List Ch} {w : World} {ty N : Nat} {c : CT} {K : KV} (h : ∀ b : Nat, K (.ep hp.length (fun _ => 0) 0) (hp ++ [.arr (some ⟨b, 0, none⟩) (fun _ => N) (fun _ => 0) (zeroCols (fun _ => N) [c]) true])) (hd : DenH Γ hp w) {bytes : Nat} {cells : List Value}
  (hi : TI Γ.P ty N bytes cells) (hz : cells.all (isZ c) = true) (hl : cells.length = N) (h1 : c.z.oneCell' = true) : RunE Γ hp w (Instr.alloc ty true (.tuple #[])) K := by
 obtain ⟨v, hv, hc⟩ := hi.zero w
 have hrep := eq_replicate hz
 rw [hl] at hrep
 have hok : Cols.ok (zeroCols (fun _ => N) [c]) N := zero_ok (fun _ => N) (by simpa using h1)
 refine ⟨_, _, _, ?_, DenH.row hd (n := fun _ => N) (sp := fun _ => 0) (cs := zeroCols (fun _ => N) [c]) (cells := cells.toArray) (ty := ty) (fz := (0, 0)) hok ?_ (by simp [zeroCols, hl]) (.inr rfl) (fun _ => rfl), ExtB.push _ _, h w.heap.size⟩
 ·rw [ep_new]
  subst hc
  simp [Instr.alloc, hv, newVar, newRow]
 ·intro i v hv
  have hlen : (c.zero fun _ => N).vals.length = N := (hok _ (by simp [zeroCols])).1
  simp only [zeroCols] at hv
  rw [flat_one _ _ hlen, zero_vals, ← hrep] at hv
  simpa using hv
theorem cells_den {x : SV} {l : List SV} (h : x.cells = some l) (bs : List Base) (n : Nat) (hx : x.hs n = true) : (x.den bs).cells = (SV.denL bs l).toArray ∧ l.all SV.one = true ∧ SV.hsL n l = true := by
 unfold SV.cells at h
 split at h
 ·rename_i m
  split at h
  ·rename_i h1
   cases h
   exact ⟨by simp [SV.den, Value.cells], h1, hx⟩
  ·cases h
 ·split at h
  ·rename_i h1
   cases h
   have := one_den (bs := bs) h1
   refine ⟨?_, by simp [h1], by simp [SV.hsL, hx]⟩
   simp only [SV.denL]
   cases hx' : x.den bs <;> simp_all [Value.cells, Value.oneCell']
  ·cases h
theorem box_ok {Γ : Ctx} {hp : List Ch} {w : World} {ty : Nat} {x : SV} {l : List SV} {K : KV} (hx : x.cells = some l) (hs : x.hs hp.length = true) (h : ∀ b : Nat, K (.bp hp.length 0) (hp ++ [.box b ty l true])) (hd : DenH Γ hp w) :
  RunE Γ hp w (Instr.box ty (x.den (bases hp))) K := by
 obtain ⟨h1, h2, h3⟩ := cells_den hx (bases hp) hp.length hs
 refine ⟨_, _, _, ?_, push_box hd ty l h2 h3, ExtB.push _ _, h w.heap.size⟩
 rw [bp_new]
 simp [Instr.box, newVar, newRow, h1]
theorem natcol_ok (k : IntKind) (l : Th (List Nat)) : Cols.ok [.nat k l] (l ()).length := by
 intro c hc
 simp only [List.mem_singleton] at hc
 subst hc
 simp [Col.vals, Value.oneCell']
theorem boxA_ok {Γ : Ctx} {hp : List Ch} {w : World} {ty : Nat} {k : IntKind} {l : Th (List Nat)} {K : KV}
  (h : ∀ b : Nat, K (.ep hp.length (fun _ => 0) 0) (hp ++ [.arr (some ⟨b, 0, none⟩) (fun _ => (l ()).length) (fun _ => 0) [.nat k l] true])) (hd : DenH Γ hp w) :
  RunE Γ hp w (Instr.box ty ((SV.av k l).den (bases hp))) K := by
 have hok := natcol_ok k l
 have hlen : (Col.nat k l).vals.length = (l ()).length := by simp [Col.vals]
 refine ⟨_, _, _, ?_, DenH.row hd (n := fun _ => (l ()).length) (sp := fun _ => 0) (cs := [.nat k l]) (cells := (Col.nat k l).vals.toArray) (ty := ty) (fz := (0, 0)) hok ?_ (by simp [Col.vals]) (.inr rfl) (fun _ => rfl), ExtB.push _ _, h w.heap.size⟩
 ·rw [ep_new]
  simp [Instr.box, newVar, newRow, SV.den, Value.cells, Col.vals]
 ·intro i v hv
  rw [flat_one _ _ hlen] at hv
  simpa using hv
theorem sl_new (hp : List Ch) (b : Nat) (len ext n sp : Th Nat) (cs : List Col) :
  (SV.sl hp.length (fun _ => some ⟨b, 0, none⟩) (fun _ => 0) len ext).den (bases (hp ++ [.arr (some ⟨b, 0, none⟩) n sp cs true])) = .slice (some ⟨b, 0, none⟩) (len ()) (len () + ext ()) := by
 simp [SV.den, baseA, baseK, bases, Ch.base]
theorem b8_ok (l : Th (List UInt8)) : Cols.ok [.b8 l] (l ()).length := by
 intro c hc
 simp only [List.mem_singleton] at hc
 subst hc
 simp [Col.vals, Value.oneCell']
theorem sS2b_ok {Γ : Ctx} {hp : List Ch} {w : World} {x : SV} {ty : Nat} {K : KV} (h : sS2b ty hp x K) (hd : DenH Γ hp w) {src dst : Nat} (hs : Γ.P.underlying src = some .string) (ht : Γ.P.underlying dst = some (.slice ty))
  (he : Γ.P.underlying ty = some (.int .u8)) : RunE Γ hp w (convert src dst (x.den (bases hp))) K := by
 unfold sS2b at h
 split at h
 ·rename_i s
  have hr := run_bytes_of_string (P := Γ.P) w src dst ty ⟨(s ()).toArray⟩ hs ht he
  have hge := grownCap_ge w (s ()).length 0 ty
  rw [size_mk] at hr
  have hlen : (Col.b8 s).vals.length = (s ()).length := by simp [Col.vals]
  refine ⟨_, _, _, ?_, DenH.row hd.drew (n := fun _ => (s ()).length) (sp := fun _ => grownCap w (s ()).length 0 ty - (s ()).length) (cs := [.b8 s]) (cells := bytesRow ⟨(s ()).toArray⟩ (grownCap w (s ()).length 0 ty)) (ty := ty)
   (fz := ((bytesRow ⟨(s ()).toArray⟩ (grownCap w (s ()).length 0 ty)).size, (bytesRow ⟨(s ()).toArray⟩ (grownCap w (s ()).length 0 ty)).size + 1)) (b8_ok s) ?_ ?_ (.inl (Nat.le_refl _)) (fun h => by cases h), ExtB.push _ _, h w.heap.size (grownCap w (s ()).length 0 ty - (s ()).length)⟩
  ·rw [World.size_drew, sl_new]
   simp only [SV.den]
   rw [hr, Nat.add_sub_cancel' hge]
  ·intro i v hv
   rw [flat_one _ _ hlen] at hv
   have hi : i < (s ()).length := by
    have := (List.getElem?_eq_some_iff.1 hv).1
    omega
   simp only [bytesRow]
   rw [Array.getElem?_append_left (by simp; omega)]
   simpa [Col.vals] using hv
  ·simp [bytesRow, size_mk]
 ·exact h.elim
theorem foldl_push (l : List UInt8) : ∀ r : ByteArray, (l.map (fun b => (b.toNat : Int))).foldl (fun r n => r.push (UInt8.ofNat n.toNat)) r = ⟨r.data ++ l.toArray⟩ := foldl_push_byteCells l
theorem sB2s_ok {Γ : Ctx} {hp : List Ch} {w : World} {x : SV} {K : KV} (h : sB2s hp x K) (hd : DenH Γ hp w) {src dst e : Nat} (hs : Γ.P.underlying src = some (.slice e)) (he : Γ.P.underlying e = some (.int .u8))
  (ht : Γ.P.underlying dst = some .string) : RunL Γ hp w (convert src dst (x.den (bases hp))) K := by
 unfold sB2s at h
 split at h
 ·refine RunL.same hd ?_ h
  simp only [SV.den]
  rw [run_convert_bytes_string w src dst e _ _ _ hs he ht]
  simp [Conv.bytesToString, empty_bytes]
 ·rename_i hh a off len ext
  split at h
  ·rename_i a2 n sp l ex hc
   obtain ⟨hba, hbk⟩ := base_at hc
   rw [nth_eq] at hc
   obtain ⟨S, hS⟩ := hd.at hc
   have hm := h.l
   refine RunL.same hd ?_ h.r
   rw [sl_den, run_convert_bytes_string w src dst e _ _ _ hs he ht]
   have hll : (l ()).length = n () := by simpa [Col.vals] using (hS.1 (.b8 l) (by simp)).1
   by_cases h0 : len () = 0
   ·have e1 : (SV.str fun _ => ((l ()).drop (off ())).take (len ())).den (bases hp) = .string ByteArray.empty := by simp [SV.den, h0, empty_bytes]
    rw [e1]
    cases slAddr (bases hp) hh a off len ext with
    | none => simp [Conv.bytesToString]
    | some ad =>
     rw [h0, run_bytesToString w ad 0 _ [] (by simp [loadCells, loadCellsFrom])]
     rfl
   ·cases a2 with
    | none => have := hS.2.1; omega
    | some ad =>
     rw [slAddr_pos (by omega), hba, hbk]
     simp only [Ch.base, Option.map_some, List.length_singleton, Nat.mul_one]
     have hcut := CellsAt.cut (m := len) hS.2.2.2.1 (fun c hc => (hS.1 c hc).1) hm
     have hok := cut_len (m := len) hS.1 hm
     have hl2 := (hok _ (show (Col.b8 l).cut off len ∈ _ by simp [cutCols])).1
     simp only [cutCols, List.length_singleton, Nat.mul_one] at hcut
     rw [flat_one _ _ hl2] at hcut
     have hload := run_loadCells_list (P := Γ.P) w ⟨ad.block, ad.off + off (), none⟩ _ (fun j v hv => by rw [add_none]; exact hcut j v hv)
     rw [hl2] at hload
     have hv : ((Col.b8 l).cut off len).vals = ((((l ()).drop (off ())).take (len ())).map fun b => (b.toNat : Int)).map (Value.int .u8) := by
      simp [Col.cut, Col.vals, List.map_take, List.map_drop]
      rfl
     rw [hv] at hload
     rw [run_bytesToString w _ (len ()) _ _ hload, foldl_push]
     simp only [SV.den]
     simp [ByteArray.empty, ByteArray.emptyWithCapacity]
     rfl
  ·exact h.elim
 ·exact h.elim
def overV : List Value → Nat → List Value → List Value
 | l, _, [] => l
 | l, off, v :: vs => overV (l.set off v) (off + 1) vs
theorem overL_den (bs : List Base) (l : List SV) (off : Nat) (vs : List SV) : SV.denL bs (overL l off vs) = overV (SV.denL bs l) off (SV.denL bs vs) := by
 induction vs generalizing l off with
 | nil => rfl
 | cons v vs ih => simp only [overL, SV.denL, overV]; rw [ih, denL_set]
theorem overV_eq (l : List Value) (off : Nat) (vs : List Value) (h : off + vs.length ≤ l.length) : overV l off vs = overC l off vs := by
 induction vs generalizing l off with
 | nil => simp [overV, overC]
 | cons v vs ih =>
  simp only [List.length_cons] at h
  rw [overV, ih _ _ (by rw [List.length_set]; omega)]
  unfold overC
  rw [List.take_set, List.drop_set]
  have : (l.take (off + 1)).set off v = l.take off ++ [v] := by
   apply List.ext_getElem?
   intro i
   rw [List.getElem?_set]
   by_cases h1 : off = i
   ·subst h1
    rw [if_pos rfl, List.length_take, if_pos (by omega), List.getElem?_append_right (by rw [List.length_take]; omega), List.length_take]
    rw [show off - min off l.length = 0 by omega]
    rfl
   ·rw [if_neg h1]
    by_cases h2 : i < off
    ·rw [List.getElem?_append_left (by simp; omega), List.getElem?_take_of_lt h2, List.getElem?_take_of_lt (by omega)]
    ·rw [List.getElem?_eq_none (by simp; omega), List.getElem?_eq_none (by simp; omega)]
  rw [this, if_pos (by omega)]
  simp [Nat.add_assoc, Nat.add_comm 1]
theorem foldl_over (off : Nat) : ∀ (vs : List Value) (i : Nat) (cs : Array Value), (vs.zipIdx i).foldl (fun (cs : Array Value) (p : Value × Nat) => cs.setIfInBounds (off + p.2) p.1) cs = (overV cs.toList (off + i) vs).toArray
 | [], i, cs => by simp [overV]
 | v :: vs, i, cs => by
  simp only [List.zipIdx_cons, List.foldl_cons, overV]
  rw [foldl_over off vs (i + 1)]
  simp [Nat.add_assoc]
theorem fill_step (place : Nat → Option (Nat × Nat)) (cells : Array Value) (i off m : Nat) (v : Value) (rest : List (Nat × Value)) (hp : place i = some (off, m)) (hv : v.cells.size = m) (hf : off + m ≤ cells.size) :
  Instr.fill place cells ((i, v) :: rest) = Instr.fill place (overV cells.toList off v.cells.toList).toArray rest := by
 simp only [Instr.fill, hp]
 have e : ¬ (decide (v.cells.size ≠ m) || decide (off + v.cells.size > cells.size)) = true := by simp [hv]; omega
 rw [if_neg e]
 have := foldl_over off v.cells.toList 0 cells
 rw [Nat.add_zero] at this
 rw [← this, ← Array.foldl_toList, Array.toList_zipIdx]
theorem fillL_ok {bs : List Base} {place : Nat → Option (Nat × Nat)} : ∀ {ps : List ((Nat × Nat) × SV)} {z l : List SV} {is : List Nat}, fillL z ps = some l → (∀ p ∈ ps, p.2.hs bs.length = true) → is.map place = ps.map (fun p => some p.1) →
  Instr.fill place (SV.denL bs z).toArray (is.zip (ps.map fun p => p.2.den bs)) = some (SV.denL bs l).toArray
 | [], z, l, is, h, _, _ => by
  simp only [fillL, Option.some.injEq] at h
  subst h
  simp [Instr.fill]
 | ((off, m), v) :: ps, z, l, [], h, _, hi => by simp at hi
 | ((off, m), v) :: ps, z, l, i :: is, h, hh, hi => by
  simp only [List.map_cons, List.cons.injEq] at hi
  simp only [fillL] at h
  split at h
  ·rename_i vs hv
   split at h
   ·rename_i h1 h2
    have h1 := Nat.eq_of_beq_eq_true h1
    have h2 := Nat.le_of_ble_eq_true h2
    obtain ⟨hc, _, _⟩ := cells_den hv bs bs.length (hh _ List.mem_cons_self)
    simp only [List.map_cons, List.zip_cons_cons]
    rw [fill_step place _ i off m _ _ hi.1 (by simp [hc, h1]) (by simpa using h2), hc]
    simp only
    rw [← overL_den]
    exact fillL_ok h (fun p hp => hh p (List.mem_cons_of_mem _ hp)) hi.2
   ·cases h
  ·cases h
theorem evParts_hs {tm : List (Nat × SV)} {hp : List Ch} {a : Act} : ∀ (l : List ((Nat × Nat) × Operand)) {K : List ((Nat × Nat) × SV) → Prop} (_ : evParts tm l K) (_ : TmOk tm hp a),
  ∃ vs, K vs ∧ l.map (fun p => (p.1, a.eval p.2)) = vs.map (fun p => (p.1, p.2.den (bases hp))) ∧ ∀ p ∈ vs, p.2.hs hp.length = true
 | [], _, h, _ => ⟨[], h, rfl, by simp⟩
 | (p, x) :: l, _, h, hd => by
  obtain ⟨v, h1, h2, h3⟩ := evO_ok h hd
  obtain ⟨vs, h4, h5, h6⟩ := evParts_hs l h1 hd
  exact ⟨(p, v) :: vs, h4, by simp [h2, h5], fun q hq => by
   rcases List.mem_cons.1 hq with e | e
   ·subst e; exact h3
   ·exact h6 q e⟩
def BuildOk (P : Program) (t : Nat) (z : List SV) (is : List Nat) (ps : List (Nat × Nat)) : Prop :=
 ∃ i v fs places, P.info? t = some i ∧ i.zero = some v ∧ z = svOfs v.cells.toList ∧ P.underlying t = some (.struct fs) ∧
  fs.toList.mapM (fun f => (P.info? f.type).map fun i => (f.offset, i.size)) = some places ∧ is.map (places[·]?) = ps.map some
theorem sBuild_ok {Γ : Ctx} {hp : List Ch} {w : World} {z : List SV} {ps : List ((Nat × Nat) × SV)} {K : KV} (h : sBuild z ps hp K) (hd : DenH Γ hp w) {t : Nat} {is : List Nat} (hb : BuildOk Γ.P t z is (ps.map (·.1)))
  (hh : ∀ p ∈ ps, p.2.hs hp.length = true) (parts : Array (Nat × Value)) (hparts : parts.toList = is.zip (ps.map fun p => p.2.den (bases hp))) : RunP Γ hp (Instr.build t parts) K := by
 unfold sBuild at h
 split at h
 ·rename_i l hl
  refine RunP.same (fun w => ?_) h
  obtain ⟨i, v, fs, places, h1, h2, h3, h4, h5, h6⟩ := hb
  have hf := fillL_ok (bs := bases hp) (place := fun i => places.toArray[i]?) (is := is) hl (by simpa using hh) (by rw [List.map_map] at h6; simpa [Function.comp_def] using h6)
  rw [h3, svOfs_den] at hf
  refine run_build (P := Γ.P) w t parts _ ?_
  unfold Program.built
  simp only [h1, h2, h4, h5]
  rw [hparts]
  simpa using hf
 ·exact h.elim
end Go.Proofs.YtfoffehokhkohaaGreat
namespace Go.Proofs.YtfoffehokhkohaaGreat
open Go
theorem heads_ok : ∀ {ls : List (List SV)} {h : List SV}, heads ls = some h → h.length = ls.length ∧ ∀ (i : Nat) (l : List SV), ls[i]? = some l → h[i]? = l[0]? ∧ 0 < l.length
 | [], h, e => by simp only [heads, Option.some.injEq] at e; subst e; simp
 | [] :: ls, h, e => by simp [heads] at e
 | (x :: y) :: ls, h, e => by
  simp only [heads] at e
  split at e
  ·rename_i r hr
   cases e
   obtain ⟨h1, h2⟩ := heads_ok hr
   refine ⟨by simp [h1], fun i l hi => ?_⟩
   cases i with
   | zero => simp only [List.getElem?_cons_zero, Option.some.injEq] at hi; subst hi; simp
   | succ i => simpa using h2 i l (by simpa using hi)
  ·cases e
theorem tails_eq (ls : List (List SV)) : tails ls = ls.map (·.drop 1) := by
 induction ls with
 | nil => rfl
 | cons l ls ih => simp [tails, ih]
theorem turn_ok : ∀ {k : Nat} {ls cols : List (List SV)}, turn k ls = some cols → cols.length = k ∧ ∀ (j : Nat) (c : List SV), cols[j]? = some c → c.length = ls.length ∧ ∀ (i : Nat) (l : List SV), ls[i]? = some l → c[i]? = l[j]?
 | 0, ls, cols, h => by simp only [turn, Option.some.injEq] at h; subst h; simp
 | k + 1, ls, cols, h => by
  simp only [turn] at h
  split at h
  ·rename_i hd r h1 h2
   cases h
   obtain ⟨a1, a2⟩ := heads_ok h1
   obtain ⟨b1, b2⟩ := turn_ok h2
   refine ⟨by simp [b1], fun j c hj => ?_⟩
   cases j with
   | zero =>
    simp only [List.getElem?_cons_zero, Option.some.injEq] at hj
    subst hj
    exact ⟨a1, fun i l hl => (a2 i l hl).1⟩
   | succ j =>
    obtain ⟨c1, c2⟩ := b2 j c (by simpa using hj)
    refine ⟨by simpa [tails_eq] using c1, fun i l hl => ?_⟩
    have := c2 i (l.drop 1) (by simp [tails_eq, hl])
    rw [this, List.getElem?_drop, Nat.add_comm]
  ·cases h
theorem colB_ok (bs : List Base) : ∀ {l : List SV} {r : Th (List UInt8)}, colB l = some r → fitB l → (r ()).map (fun b => Value.int .u8 b.toNat) = SV.denL bs l
 | [], r, h, _ => by simp only [colB, Option.some.injEq] at h; subst h; rfl
 | x :: l, r, h, hf => by
  unfold colB at h
  split at h
  ·cases ‹_ :: _ = []›
  ·rename_i n l' heq
   cases heq
   split at h
   ·rename_i r' hr
    cases h
    obtain ⟨⟨h1, h2⟩, h3⟩ := hf
    simp only [List.map_cons, SV.denL, SV.den, colB_ok bs hr h3]
    congr 2
    rw [UInt8.toNat_ofNat']; omega
   ·cases h
  ·cases h
theorem colN_ok (bs : List Base) {k : IntKind} : ∀ {l : List SV} {r : Th (List Nat)}, colN k l = some r → fitN l → (r ()).map (fun (n : Nat) => Value.int k n) = SV.denL bs l
 | [], r, h, _ => by simp only [colN, Option.some.injEq] at h; subst h; rfl
 | x :: l, r, h, hf => by
  unfold colN at h
  split at h
  ·cases ‹_ :: _ = []›
  ·rename_i k' n l' heq
   cases heq
   split at h
   ·rename_i r' hk hr
    have hk : k = k' := by simpa using hk
    subst hk
    cases h
    obtain ⟨h1, h3⟩ := hf
    simp only [List.map_cons, SV.denL, SV.den, colN_ok bs hr h3]
    congr 2
    omega
   ·cases h
  ·cases h
theorem colI_ok (bs : List Base) : ∀ {l : List SV} {r : Th (List Int)}, colI l = some r → (r ()).map (fun n => Value.int .i64 n) = SV.denL bs l
 | [], r, h => by simp only [colI, Option.some.injEq] at h; subst h; rfl
 | x :: l, r, h => by
  unfold colI at h
  split at h
  ·cases ‹_ :: _ = []›
  ·rename_i n l' heq
   cases heq
   split at h
   ·rename_i r' hr
    cases h
    simp only [List.map_cons, SV.denL, SV.den, colI_ok bs hr]
   ·cases h
  ·cases h
theorem colL_ok (bs : List Base) : ∀ {l : List SV} {r : Th (List Bool)}, colL l = some r → (r ()).map Value.bool = SV.denL bs l
 | [], r, h => by simp only [colL, Option.some.injEq] at h; subst h; rfl
 | x :: l, r, h => by
  unfold colL at h
  split at h
  ·cases ‹_ :: _ = []›
  all_goals first
   | (rename_i heq; cases heq; split at h
      ·rename_i r' hr; cases h; simp only [List.map_cons, SV.denL, SV.den, colL_ok bs hr]
      ·cases h)
   | cases h
theorem colS_ok (bs : List Base) : ∀ {l : List SV} {r : Th (List (List UInt8))}, colS l = some r → (r ()).map (fun s => Value.string ⟨s.toArray⟩) = SV.denL bs l
 | [], r, h => by simp only [colS, Option.some.injEq] at h; subst h; rfl
 | x :: l, r, h => by
  unfold colS at h
  split at h
  ·cases ‹_ :: _ = []›
  ·rename_i n l' heq
   cases heq
   split at h
   ·rename_i r' hr
    cases h
    simp only [List.map_cons, SV.denL, SV.den, colS_ok bs hr]
   ·cases h
  ·cases h
theorem CT.col_ok {bs : List Base} {c : CT} {l : List SV} {x : Col} (h : c.col bs l = some x) (hf : c.fit l) : x.vals = SV.denL bs l := by
 unfold CT.col at h
 cases c <;> simp only [CT.fit] at hf h
 ·split at h
  ·rename_i hr; cases h; exact colB_ok bs hr hf
  ·cases h
 ·split at h
  ·rename_i hr; cases h; exact colN_ok bs hr hf
  ·cases h
 ·split at h
  ·rename_i hr; cases h; exact colI_ok bs hr
  ·cases h
 ·split at h
  ·rename_i hr; cases h; exact colL_ok bs hr
  ·cases h
 ·split at h
  ·rename_i hr; cases h; exact colS_ok bs hr
  ·cases h
 ·cases h; rfl
theorem colsOf_ok {bs : List Base} : ∀ {cts : List CT} {ls : List (List SV)} {r : List Col} {p : Th Prop}, colsOf bs cts ls = some (r, p) → p () → r.length = cts.length ∧ ls.length = cts.length ∧
  ∀ (j : Nat) (c : Col) (l : List SV), r[j]? = some c → ls[j]? = some l → c.vals = SV.denL bs l
 | [], [], r, p, h, _ => by simp only [colsOf, Option.some.injEq, Prod.mk.injEq] at h; rw [← h.1]; simp
 | c :: cts, l :: ls, r, p, h, hp => by
  simp only [colsOf] at h
  split at h
  ·rename_i x r' p' hx hr
   simp only [Option.some.injEq, Prod.mk.injEq] at h
   obtain ⟨rfl, rfl⟩ := h
   obtain ⟨h1, h2, h3⟩ := colsOf_ok hr hp.2
   refine ⟨by simp [h1], by simp [h2], fun j c' l' hc hl => ?_⟩
   cases j with
   | zero =>
    simp only [List.getElem?_cons_zero, Option.some.injEq] at hc hl
    subst hc; subst hl
    exact CT.col_ok hx hp.1
   | succ j => exact h3 j c' l' (by simpa using hc) (by simpa using hl)
  ·cases h
 | [], _ :: _, _, _, h, _ => by simp [colsOf] at h
 | _ :: _, [], _, _, h, _ => by simp [colsOf] at h
theorem flatten_get {k : Nat} : ∀ {ls : List (List SV)} (i j : Nat) (l : List SV), (∀ l ∈ ls, l.length = k) → ls[i]? = some l → j < k → ls.flatten[i * k + j]? = l[j]?
 | [], i, j, l, _, h, _ => by simp at h
 | m :: ls, 0, j, l, hk, h, hj => by
  simp only [List.getElem?_cons_zero, Option.some.injEq] at h
  subst h
  have := hk m List.mem_cons_self
  rw [List.flatten_cons, List.getElem?_append_left (by omega)]
  simp
 | m :: ls, i + 1, j, l, hk, h, hj => by
  have hm := hk m List.mem_cons_self
  rw [List.flatten_cons, List.getElem?_append_right (by rw [Nat.succ_mul]; omega), hm]
  rw [show (i + 1) * k + j - k = i * k + j by rw [Nat.succ_mul]; omega]
  exact flatten_get i j l (fun l hl => hk l (List.mem_cons_of_mem _ hl)) (by simpa using h) hj
theorem flatten_len {k : Nat} : ∀ {ls : List (List SV)}, (∀ l ∈ ls, l.length = k) → ls.flatten.length = ls.length * k
 | [], _ => by simp
 | m :: ls, hk => by
  rw [List.flatten_cons, List.length_append, hk m List.mem_cons_self, flatten_len (fun l hl => hk l (List.mem_cons_of_mem _ hl)), List.length_cons, Nat.succ_mul, Nat.add_comm]
theorem flat_turned {bs : List Base} {cts : List CT} {els cols : List (List SV)} {cs : List Col} {p : Th Prop} (ht : turn cts.length els = some cols) (hc : colsOf bs cts cols = some (cs, p)) (hp : p ()) (hk : ∀ l ∈ els, l.length = cts.length)
  (h1 : ∀ l ∈ els, l.all SV.one = true) : flat cs els.length = SV.denL bs els.flatten ∧ Cols.ok cs els.length ∧ cs.length = cts.length := by
 obtain ⟨t1, t2⟩ := turn_ok ht
 obtain ⟨c1, c2, c3⟩ := colsOf_ok hc hp
 refine ⟨?_, ?_, c1⟩
 ·apply flat_ext
  ·rw [denL_length, flatten_len hk, c1]
  ·intro i j c hi hj
   have hjl : j < cts.length := by rw [← c1]; exact (List.getElem?_eq_some_iff.1 hj).1
   obtain ⟨l, hl⟩ : ∃ l, cols[j]? = some l := ⟨cols[j]'(by omega), by simp [t1, hjl]⟩
   obtain ⟨e, he⟩ : ∃ e, els[i]? = some e := ⟨els[i], by simp [hi]⟩
   obtain ⟨a1, a2⟩ := t2 j l hl
   rw [c3 j c l hj hl, denL_map, denL_map, List.getElem?_map, List.getElem?_map, c1, flatten_get i j e hk he hjl, a2 i e he]
   have : j < e.length := by rw [hk e (List.mem_of_getElem? he)]; exact hjl
   simp [this]
 ·intro c hc'
  obtain ⟨j, hj, rfl⟩ := List.getElem_of_mem hc'
  have hjl : j < cts.length := by omega
  obtain ⟨l, hl⟩ : ∃ l, cols[j]? = some l := ⟨cols[j]'(by omega), by simp [t1, hjl]⟩
  obtain ⟨a1, a2⟩ := t2 j l hl
  rw [c3 j _ l (by simp [hj]) hl]
  refine ⟨by simp [a1], fun v hv => ?_⟩
  rw [denL_map, List.mem_map] at hv
  obtain ⟨x, hx, rfl⟩ := hv
  obtain ⟨i, hi, rfl⟩ := List.getElem_of_mem hx
  obtain ⟨e, he⟩ : ∃ e, els[i]? = some e := ⟨els[i]'(by omega), by simp [← a1, hi]⟩
  have h2 := a2 i e he
  rw [List.getElem?_eq_getElem hi] at h2
  have h3 := h1 e (List.mem_of_getElem? he)
  rw [List.all_eq_true] at h3
  exact one_den (h3 _ (List.mem_of_getElem? h2.symm))
theorem fill_row {bs : List Base} {k : Nat} : ∀ (els : List (List SV)) (vs : List Value) (i : Nat) (pre post : List Value), (∀ l ∈ els, l.length = k) → vs.map Value.cells = els.map (fun l => (SV.denL bs l).toArray) → pre.length = i * k → post.length = els.length * k →
  Instr.fill (fun i => some (i * k, k)) (pre ++ post).toArray ((List.range' i els.length).zip vs) = some (pre ++ SV.denL bs els.flatten).toArray
 | [], vs, i, pre, post, _, _, _, hpost => by
  have : post = [] := List.eq_nil_of_length_eq_zero (by simpa using hpost)
  subst this
  simp [Instr.fill, SV.denL]
 | e :: els, [], i, pre, post, _, hv, _, _ => by simp at hv
 | e :: els, v :: vs, i, pre, post, hk, hv, hpre, hpost => by
  simp only [List.map_cons, List.cons.injEq] at hv
  have hke := hk e List.mem_cons_self
  simp only [List.length_cons, Nat.succ_mul] at hpost
  rw [List.length_cons, List.range'_succ, List.zip_cons_cons, fill_step _ _ i (i * k) k v _ rfl (by rw [hv.1]; simp [hke]) (by simp; omega), hv.1]
  simp only
  rw [overV_eq _ _ _ (by simp [hke]; omega)]
  have e1 : overC (pre ++ post) (i * k) (SV.denL bs e) = (pre ++ SV.denL bs e) ++ post.drop k := by
   unfold overC
   rw [← hpre, List.take_left', List.drop_append, denL_length, hke]
   ·simp
   ·rfl
  rw [e1, fill_row els vs (i + 1) (pre ++ SV.denL bs e) (post.drop k) (fun l hl => hk l (List.mem_cons_of_mem _ hl)) hv.2 (by simp [hpre, hke, Nat.succ_mul]) (by simp; omega)]
  simp [denL_map]
theorem sBslice_ok {Γ : Ctx} {hp : List Ch} {w : World} {len : Nat} {cts : List CT} {els : List (List SV)} {K : KV} (h : sBslice len cts els hp K) (hd : DenH Γ hp w) {t e bytes : Nat} {z : List Value}
  (ht : Γ.P.underlying t = some (.slice e)) (he : TI Γ.P e cts.length bytes z) (hcells : z.length = cts.length) (hsmall : len * cts.length ≤ 16777216) (hk : ∀ l ∈ els, l.length = cts.length) (h1 : ∀ l ∈ els, l.all SV.one = true)
  (parts : Array (Nat × Value)) (vs : List Value) (hparts : parts.toList = (List.range' 0 len).zip vs) (hvs : vs.map Value.cells = els.map (fun l => (SV.denL (bases hp) l).toArray)) :
  RunE Γ hp w (Instr.buildSlice t len parts) K := by
 unfold sBslice at h
 split at h
 ·rename_i cols hl ha htn
  have hl := Nat.eq_of_beq_eq_true hl
  split at h
  ·rename_i cs p hc
   obtain ⟨f1, f2, f3⟩ := flat_turned htn hc h.l hk h1
   rw [hl] at f1 f2
   obtain ⟨v, hv, hz⟩ := he.zero w
   refine ⟨_, _, _, ?_, DenH.row hd (n := fun _ => len) (sp := fun _ => 0) (cs := cs) (cells := (SV.denL (bases hp) els.flatten).toArray) (ty := e) (fz := (0, 0)) f2 ?_ ?_ (.inr rfl) (fun _ => rfl), ExtB.push _ _, h.r w.heap.size⟩
   ·rw [sl_new]
    have hfill := fill_row (bs := bases hp) (k := cts.length) els vs 0 [] ((Array.range (len * cts.length)).map fun x => (if len * cts.length = 0 then #[] else v.cells)[x % (if len * cts.length = 0 then #[] else v.cells).size]!).toList hk hvs (by simp) (by simp [hl])
    simp only [List.nil_append, hl] at hfill
    rw [← hparts] at hfill
    have hn : ¬ (len * cts.length > 2 ^ 24) := by omega
    by_cases h0 : len * cts.length = 0
    ·rw [if_pos h0] at hfill
     simp only [Array.toArray_toList] at hfill
     simp [Instr.buildSlice, run_underlying ht, he.sizeOf, h0, newRow]
     simp only [h0] at hfill
     simp at hfill
     simp [hfill]
    ·rw [if_neg h0] at hfill
     simp only [Array.toArray_toList] at hfill
     simp [Instr.buildSlice, run_underlying ht, he.sizeOf, hn, h0, hv, newRow, hfill]
   ·intro i v hv
    rw [f1] at hv
    simpa using hv
   ·simp [flatten_len hk, hl, f3]
  ·exact h.elim
 ·exact h.elim
theorem run_makeSlice {P : Program} {w : World} {t e size bytes : Nat} {z : List Value} (ht : P.underlying t = some (.slice e)) (he : TI P e size bytes z) {kl kc : IntKind} {l c : Int} (h0 : 0 ≤ l) (h1 : l ≤ c) (h2 : bytes * c ≤ 281474976710656)
  (h3 : c ≤ 281474976710656) :
  ∃ cells : Array Value, (Instr.makeSlice t (.int kl l) (.int kc c)).run P w = .ok (.slice (some ⟨w.heap.size, 0, none⟩) l.toNat c.toNat) (w.alloc (.cells cells e)) ∧
   cells = if c.toNat * size = 0 then (Array.range (c.toNat * size)).map (fun _ => default) else (Array.range (c.toNat * size)).map (fun x => z.toArray[x % z.length]!) := by
 obtain ⟨i, v, hi1, hi2, hi3, hi4, hi5⟩ := he.h
 have wl : IntKind.i64.wrap l = l := wrap_id ⟨by omega, by omega⟩
 have wc : IntKind.i64.wrap c = c := wrap_id ⟨by omega, by omega⟩
 have n1 : ¬ c < 0 := by omega
 have n2 : ¬ (i.bytes : Int) * c > 281474976710656 := by rw [hi3]; omega
 have n4 : ¬ l < 0 := by omega
 have n5 : ¬ l > c := by omega
 have hbytes : ¬ (c.toNat * i.bytes > 2 ^ 47) ∨ (c.toNat * i.bytes > 2 ^ 47) := by omega
 by_cases hn : c.toNat * size = 0
 ·refine ⟨_, ?_, rfl⟩
  rw [if_pos hn]
  have hn' : c.toNat * i.size = 0 := by rw [hi2]; exact hn
  rcases hbytes with hb | hb <;>
   simp [Instr.makeSlice, run_underlying ht, asInt, asIntOf, typeInfo, hi1, sizeOf, wl, wc, n1, n2, n4, n5, hn', hn, newRow, askRoom, roomBytes, hb]
 ·refine ⟨_, ?_, rfl⟩
  rw [if_neg hn]
  have hn' : ¬ c.toNat * i.size = 0 := by rw [hi2]; exact hn
  subst hi5
  rcases hbytes with hb | hb <;>
   simp [Instr.makeSlice, run_underlying ht, asInt, asIntOf, typeInfo, hi1, sizeOf, zeroValue, hi4, hi2, wl, wc, n1, n2, n4, n5, hn', hn, newRow, askRoom, roomBytes, hb]
end Go.Proofs.YtfoffehokhkohaaGreat
