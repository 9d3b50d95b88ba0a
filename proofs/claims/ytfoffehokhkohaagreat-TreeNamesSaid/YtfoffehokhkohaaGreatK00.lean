/- Part 0 of what is proved in the last text (packed by a program of mine). -/
import Derived.CallsIn
import Derived.OrdersIn
import Derived.TacticsIn
import Derived.RangeFuncRecord
import Derived.Laws.AppendOwn
import Derived.Laws.Rows
import Derived.Laws.Cells
import Derived.Laws.CopyRow
import Derived.KernelRfl
set_option linter.all false
namespace Go.Proofs.YtfoffehokhkohaaGreat
open Go
abbrev Th (α : Type) := Unit → α
def toI (n : Nat) : Int := (n : Int)
inductive SV where
 | int (k : IntKind) (n : Th Int)
 | bl (b : Th Bool)
 | tt
 | ff
 | str (s : Th (List UInt8))
 | nilp
 | pt (a : Th Addr)
 | op (a : Th (Option Addr))
 | bp (h off : Nat)
 | ep (h : Nat) (i : Th Nat) (j : Nat)
 | sl (h : Nat) (a : Th (Option Addr)) (off len ext : Th Nat)
 | nils
 | av (k : IntKind) (l : Th (List Nat))
 | fn (f : Fn) (first caps : List SV)
 | nilf
 | agg (l : List SV)
 | tup (l : List SV)
 | val (v : Th Value)
 deriving Inhabited
abbrev Base := Option Addr × Nat
def baseA (bs : List Base) (h : Nat) : Option Addr := (bs[h]?).bind (·.1)
def baseK (bs : List Base) (h : Nat) : Nat := ((bs[h]?).map (·.2)).getD 1
mutual
def SV.den (bs : List Base) : SV → Value
 | .int k n => .int k (n ())
 | .bl b => .bool (b ())
 | .tt => .bool true
 | .ff => .bool false
 | .str s => .string ⟨(s ()).toArray⟩
 | .nilp => .pointer none
 | .pt a => .pointer (some (a ()))
 | .op a => .pointer (a ())
 | .bp h off => .pointer ((baseA bs h).map fun a => ⟨a.block, a.off + off, none⟩)
 | .ep h i j => .pointer ((baseA bs h).map fun a => ⟨a.block, a.off + (i () * baseK bs h + j), none⟩)
 | .sl h a off len ext => .slice (if len () + ext () = 0 then a () else (baseA bs h).map fun a => ⟨a.block, a.off + off () * baseK bs h, none⟩) (len ()) (len () + ext ())
 | .nils => .slice none 0 0
 | .av k l => .agg ((l ()).map fun (n : Nat) => Value.int k n).toArray
 | .fn f fs cs => .func f (SV.denL bs fs).toArray (SV.denL bs cs).toArray
 | .nilf => .nilFunc
 | .agg l => .agg (SV.denL bs l).toArray
 | .tup l => .tuple (SV.denL bs l).toArray
 | .val v => v ()
def SV.denL (bs : List Base) : List SV → List Value
 | [] => []
 | x :: l => x.den bs :: SV.denL bs l
end
theorem denL_map (bs : List Base) (l : List SV) : SV.denL bs l = l.map (SV.den bs) := by
 induction l with
 | nil => simp [SV.denL]
 | cons x l ih => simp [SV.denL, ih]
@[simp] theorem denL_length (bs : List Base) (l : List SV) : (SV.denL bs l).length = l.length := by simp [denL_map]
mutual
def SV.hs (n : Nat) : SV → Bool
 | .bp h _ => Nat.blt h n
 | .ep h _ _ => Nat.blt h n
 | .sl h _ _ _ _ => Nat.blt h n
 | .fn _ fs cs => SV.hsL n fs && SV.hsL n cs
 | .agg l => SV.hsL n l
 | .tup l => SV.hsL n l
 | _ => true
def SV.hsL (n : Nat) : List SV → Bool
 | [] => true
 | x :: l => x.hs n && SV.hsL n l
end
theorem hsL_all (n : Nat) (l : List SV) : SV.hsL n l = l.all (SV.hs n) := by
 induction l with
 | nil => simp [SV.hsL]
 | cons x l ih => simp [SV.hsL, ih]
theorem blt_lt {a b : Nat} (h : Nat.blt a b = true) : a < b := by
 simp [Nat.blt] at h; omega
mutual
theorem den_ext (bs bs' : List Base) : ∀ (x : SV), x.hs bs.length = true → x.den (bs ++ bs') = x.den bs
 | .bp h off, hh => by
  have := blt_lt hh
  simp [SV.den, baseA, List.getElem?_append_left this]
 | .ep h i j, hh => by
  have := blt_lt hh
  simp [SV.den, baseA, baseK, List.getElem?_append_left this]
 | .sl h a off len ext, hh => by
  have := blt_lt hh
  simp [SV.den, baseA, baseK, List.getElem?_append_left this]
 | .fn f fs cs, hh => by
  simp only [SV.hs, Bool.and_eq_true] at hh
  simp [SV.den, denL_ext bs bs' fs hh.1, denL_ext bs bs' cs hh.2]
 | .agg l, hh => by simp [SV.den, denL_ext bs bs' l hh]
 | .tup l, hh => by simp [SV.den, denL_ext bs bs' l hh]
 | .int .., _ | .bl .., _ | .tt, _ | .ff, _ | .str .., _ | .nilp, _ | .pt .., _ | .op .., _ | .nils, _ | .av .., _ | .nilf, _ | .val .., _ => by simp [SV.den]
theorem denL_ext (bs bs' : List Base) : ∀ (l : List SV), SV.hsL bs.length l = true → SV.denL (bs ++ bs') l = SV.denL bs l
 | [], _ => rfl
 | x :: l, hh => by
  simp only [SV.hsL, Bool.and_eq_true] at hh
  simp [SV.denL, den_ext bs bs' x hh.1, denL_ext bs bs' l hh.2]
end
mutual
theorem hs_mono {n m : Nat} (hnm : n ≤ m) : ∀ (x : SV), x.hs n = true → x.hs m = true
 | .bp h off, hh => by have := blt_lt hh; simp [SV.hs, Nat.blt]; omega
 | .ep h i j, hh => by have := blt_lt hh; simp [SV.hs, Nat.blt]; omega
 | .sl h a off len ext, hh => by have := blt_lt hh; simp [SV.hs, Nat.blt]; omega
 | .fn f fs cs, hh => by
  simp only [SV.hs, Bool.and_eq_true] at hh ⊢
  exact ⟨hsL_mono hnm fs hh.1, hsL_mono hnm cs hh.2⟩
 | .agg l, hh => hsL_mono hnm l hh
 | .tup l, hh => hsL_mono hnm l hh
 | .int .., _ | .bl .., _ | .tt, _ | .ff, _ | .str .., _ | .nilp, _ | .pt .., _ | .op .., _ | .nils, _ | .av .., _ | .nilf, _ | .val .., _ => rfl
theorem hsL_mono {n m : Nat} (hnm : n ≤ m) : ∀ (l : List SV), SV.hsL n l = true → SV.hsL m l = true
 | [], _ => rfl
 | x :: l, hh => by
  simp only [SV.hsL, Bool.and_eq_true] at hh ⊢
  exact ⟨hs_mono hnm x hh.1, hsL_mono hnm l hh.2⟩
end
def SV.one : SV → Bool
 | .agg _ | .tup _ | .av _ _ | .val _ => false
 | _ => true
theorem one_den {bs : List Base} {x : SV} (h : x.one = true) : (x.den bs).oneCell' = true := by
 cases x <;> simp_all [SV.one, SV.den, Value.oneCell']
inductive Col where
 | b8 (l : Th (List UInt8))
 | nat (k : IntKind) (l : Th (List Nat))
 | int (k : IntKind) (l : Th (List Int))
 | bool (l : Th (List Bool))
 | str (l : Th (List (List UInt8)))
 | val (l : Th (List Value))
def Col.vals : Col → List Value
 | .b8 l => (l ()).map fun b => .int .u8 b.toNat
 | .nat k l => (l ()).map fun (n : Nat) => .int k n
 | .int k l => (l ()).map fun n => .int k n
 | .bool l => (l ()).map .bool
 | .str l => (l ()).map fun s => .string ⟨s.toArray⟩
 | .val l => l ()
def Col.get (c : Col) (i : Th Nat) : SV :=
 match c with
 | .b8 l => .int .u8 fun _ => toI ((l ()).getD (i ()) 0).toNat
 | .nat k l => .int k fun _ => toI ((l ()).getD (i ()) 0)
 | .int k l => .int k fun _ => (l ()).getD (i ()) 0
 | .bool l => .bl fun _ => (l ()).getD (i ()) false
 | .str l => .str fun _ => (l ()).getD (i ()) []
 | .val l => .val fun _ => (l ()).getD (i ()) undef
theorem Col.get_den (c : Col) (i : Th Nat) (bs : List Base) (h : i () < c.vals.length) : c.vals[i ()]? = some ((c.get i).den bs) := by
 cases c <;> simp only [Col.vals, Col.get, SV.den, List.length_map, toI] at h ⊢ <;> simp [List.getElem?_eq_getElem h]
def flat (cs : List Col) (n : Nat) : List Value := (List.range n).flatMap fun i => cs.map fun c => (c.vals[i]?).getD undef
theorem length_flat (cs : List Col) (n : Nat) : (flat cs n).length = n * cs.length := by
 induction n with
 | zero => simp [flat]
 | succ n ih => unfold flat at *; rw [List.range_succ, List.flatMap_append, List.length_append, ih]; simp [Nat.succ_mul]
theorem flat_get (cs : List Col) (n i j : Nat) (c : Col) (hi : i < n) (hj : cs[j]? = some c) : (flat cs n)[i * cs.length + j]? = some ((c.vals[i]?).getD undef) := by
 have hjl : j < cs.length := (List.getElem?_eq_some_iff.1 hj).1
 induction n with
 | zero => omega
 | succ n ih =>
  have hs : flat cs (n + 1) = flat cs n ++ cs.map fun c => (c.vals[n]?).getD undef := by
   unfold flat; rw [List.range_succ, List.flatMap_append]; simp
  rw [hs]
  by_cases h : i < n
  ·rw [List.getElem?_append_left]
   ·exact ih h
   ·rw [length_flat]
    calc i * cs.length + j < i * cs.length + cs.length := by omega
     _ = (i + 1) * cs.length := by rw [Nat.succ_mul]
     _ ≤ n * cs.length := Nat.mul_le_mul_right _ h
  ·have : i = n := by omega
   subst this
   rw [List.getElem?_append_right (by rw [length_flat]; omega), length_flat]
   simp [hj]
structure RP where
 R : World → (Nat → Prop) → Prop
 loc : ∀ {w w' : World} {S : Nat → Prop}, R w S → (∀ b, S b → w'.heap[b]? = w.heap[b]?) → R w' S
 dom : ∀ {w : World} {S : Nat → Prop}, R w S → ∀ b, S b → b < w.heap.size
inductive Ch where
 | box (b : Nat) (ty : Nat) (l : List SV) (ex : Bool)
 | arr (a : Option Addr) (n sp : Th Nat) (cs : List Col) (ex : Bool)
 | res (r : Th RP)
 | gone (a : Option Addr) (k : Nat)
def Ch.base : Ch → Base
 | .box b _ _ _ => (some ⟨b, 0, none⟩, 1)
 | .arr a _ _ cs _ => (a, cs.length)
 | .res _ => (none, 1)
 | .gone a k => (a, k)
def bases (hp : List Ch) : List Base := hp.map Ch.base
@[simp] theorem bases_length (hp : List Ch) : (bases hp).length = hp.length := by simp [bases]
theorem bases_append (hp hp' : List Ch) : bases (hp ++ hp') = bases hp ++ bases hp' := by simp [bases]
structure Ctx where
 P : Program
 w0 : World
 D : Nat → Prop
 b0 : List Base
structure Fr (D : Nat → Prop) (w0 w : World) : Prop where
 os : w.os = w0.os
 output : w.output = w0.output
 tape : w.tape = w0.tape
 size : w0.heap.size ≤ w.heap.size
 keep : ∀ b, b < w0.heap.size → ¬ D b → w.heap[b]? = w0.heap[b]?
theorem Fr.refl (D : Nat → Prop) (w : World) : Fr D w w := ⟨rfl, rfl, rfl, Nat.le_refl _, fun _ _ _ => rfl⟩
theorem Fr.trans {D E : Nat → Prop} {a b c : World} (h : Fr D a b) (k : Fr E b c) (hE : ∀ x, x < a.heap.size → E x → D x) : Fr D a c :=
 ⟨k.os.trans h.os, k.output.trans h.output, k.tape.trans h.tape, Nat.le_trans h.size k.size, fun x hx hD =>
  (k.keep x (Nat.lt_of_lt_of_le hx h.size) (fun hE' => hD (hE x hx hE'))).trans (h.keep x hx hD)⟩
def CellsAt (w : World) (ad : Addr) (l : List Value) : Prop := ∀ i v, l[i]? = some v → w.cell? ⟨ad.block, ad.off + i, none⟩ = some v
def Roomy (pl : Bool) (w : World) (ad : Addr) (n : Nat) : Prop := (∀ i, i < n → w.frozen? ⟨ad.block, ad.off + i, none⟩ = false ∧ (w.cell? ⟨ad.block, ad.off + i, none⟩).isSome = true) ∧
 (pl = true → ∀ o, (w.cell? ⟨ad.block, o, none⟩).isSome = false → w.frozen? ⟨ad.block, o, none⟩ = false)
def Col.isNat : Col → Bool
 | .nat _ _ => true
 | _ => false
def plain (cs : List Col) : Bool := cs.all Col.isNat
theorem CellsAt.of_block {w w' : World} {ad : Addr} {l : List Value} (h : CellsAt w ad l) (hb : w'.heap[ad.block]? = w.heap[ad.block]?) : CellsAt w' ad l :=
 fun i v hv => (World.cell?_of_block (a := ⟨ad.block, ad.off + i, none⟩) hb).trans (h i v hv)
theorem Roomy.of_block {pl : Bool} {w w' : World} {ad : Addr} {n : Nat} (h : Roomy pl w ad n) (hb : w'.heap[ad.block]? = w.heap[ad.block]?) : Roomy pl w' ad n :=
 ⟨fun i hi => ⟨(World.frozen?_of_block (a := ⟨ad.block, ad.off + i, none⟩) hb).trans (h.1 i hi).1, by rw [World.cell?_of_block (a := ⟨ad.block, ad.off + i, none⟩) hb]; exact (h.1 i hi).2⟩,
  fun hp o ho => (World.frozen?_of_block (a := ⟨ad.block, o, none⟩) hb).trans (h.2 hp o (by rw [World.cell?_of_block (a := ⟨ad.block, o, none⟩) hb] at ho; exact ho))⟩
def Cols.ok (cs : List Col) (n : Nat) : Prop := ∀ c ∈ cs, c.vals.length = n ∧ ∀ v ∈ c.vals, v.oneCell' = true
def Ch.holds (Γ : Ctx) (bs : List Base) (w : World) : Ch → (Nat → Prop) → Prop
 | .box b ty l ex, S => w.heap[b]? = some (.cells (SV.denL bs l).toArray ty (0, 0)) ∧ SV.hsL bs.length l = true ∧ l.all SV.one = true ∧
   (if ex then ∀ x, S x ↔ x = b else (∀ x, ¬ S x) ∧ b < Γ.w0.heap.size ∧ ¬ Γ.D b)
 | .arr a n sp cs ex, S => Cols.ok cs (n ()) ∧
   (match a with
    | none => n () = 0 ∧ sp () = 0 ∧ ∀ x, ¬ S x
    | some ad => ad.spot = none ∧ ad.block < w.heap.size ∧ CellsAt w ad (flat cs (n ())) ∧
     (if ex then (∀ x, S x ↔ x = ad.block) ∧ Roomy (plain cs) w ad ((n () + sp ()) * cs.length) else (∀ x, ¬ S x) ∧ ad.block < Γ.w0.heap.size ∧ ¬ Γ.D ad.block))
 | .res r, S => (r ()).R w S
 | .gone _ _, S => ∀ x, ¬ S x
structure DenS (Γ : Ctx) (hp : List Ch) (w : World) (S : Nat → Nat → Prop) : Prop where
 fr : Fr Γ.D Γ.w0 w
 ch : ∀ (h : Nat) (c : Ch), hp[h]? = some c → c.holds Γ (bases hp) w (S h)
 dj : ∀ h h' x, S h x → S h' x → h = h'
 own : ∀ h x, S h x → x < Γ.w0.heap.size → Γ.D x
 dom : ∀ h x, S h x → x < w.heap.size
 out : ∀ h x, S h x → h < hp.length
 pre : ∃ bs, bases hp = Γ.b0 ++ bs
def DenH (Γ : Ctx) (hp : List Ch) (w : World) : Prop := ∃ S, DenS Γ hp w S
theorem Ch.holds.keep {Γ : Ctx} {bs : List Base} {w w' : World} {c : Ch} {S : Nat → Prop} (h : c.holds Γ bs w S) (hw : Fr Γ.D Γ.w0 w) (hw' : Fr Γ.D Γ.w0 w')
  (hsz : w.heap.size ≤ w'.heap.size) (hS : ∀ x, S x → w'.heap[x]? = w.heap[x]?) : c.holds Γ bs w' S := by
 cases c with
 | box b ty l ex =>
  obtain ⟨h1, h2, h3, h4⟩ := h
  refine ⟨?_, h2, h3, h4⟩
  cases ex with
  | true => rw [hS b ((h4 b).2 rfl)]; exact h1
  | false => simp only [Bool.false_eq_true, if_false] at h4; rw [hw'.keep b h4.2.1 h4.2.2, ← hw.keep b h4.2.1 h4.2.2]; exact h1
 | arr a n sp cs ex =>
  obtain ⟨h1, h2⟩ := h
  refine ⟨h1, ?_⟩
  cases a with
  | none => exact h2
  | some ad =>
   obtain ⟨hsp, hlt, hc, h4⟩ := h2
   have hb : w'.heap[ad.block]? = w.heap[ad.block]? := by
    cases ex with
    | true => exact hS _ ((h4.1 _).2 rfl)
    | false => simp only [Bool.false_eq_true, if_false] at h4; rw [hw'.keep _ h4.2.1 h4.2.2, ← hw.keep _ h4.2.1 h4.2.2]
   refine ⟨hsp, by omega, hc.of_block hb, ?_⟩
   cases ex with
   | true => exact ⟨h4.1, Roomy.of_block h4.2 hb⟩
   | false => exact h4
 | res r => exact (r ()).loc h hS
 | gone a k => exact h
theorem Ch.holds.ext {Γ : Ctx} {bs bs' : List Base} {w : World} {c : Ch} {S : Nat → Prop} (h : c.holds Γ bs w S) : c.holds Γ (bs ++ bs') w S := by
 cases c with
 | box b ty l ex =>
  obtain ⟨h1, h2, h3, h4⟩ := h
  exact ⟨by rw [denL_ext bs bs' l h2]; exact h1, hsL_mono (by simp) l h2, h3, h4⟩
 | arr a n sp cs ex => exact h
 | res r => exact h
 | gone a k => exact h
theorem DenH.same {Γ : Ctx} {hp : List Ch} {w w' : World} (h : DenH Γ hp w) (hh : w'.heap = w.heap) (ho : w'.os = w.os) (hu : w'.output = w.output) (ht : w'.tape = w.tape) : DenH Γ hp w' := by
 obtain ⟨S, d⟩ := h
 have hf : Fr Γ.D Γ.w0 w' := ⟨ho.trans d.fr.os, hu.trans d.fr.output, ht.trans d.fr.tape, by rw [hh]; exact d.fr.size, by rw [hh]; exact d.fr.keep⟩
 exact ⟨S, hf, fun k c hc => (d.ch k c hc).keep d.fr hf (by rw [hh]; exact Nat.le_refl _) (fun x _ => by rw [hh]), d.dj, d.own, by rw [hh]; exact d.dom, d.out, d.pre⟩
theorem DenH.drew {Γ : Ctx} {hp : List Ch} {w : World} (h : DenH Γ hp w) : DenH Γ hp w.drew := h.same rfl rfl rfl rfl
theorem Fr.alloc {D : Nat → Prop} {a w : World} (h : Fr D a w) (o : Obj) : Fr D a (w.alloc o) :=
 ⟨h.os, h.output, h.tape, by have := h.size; rw [World.size_alloc]; omega, fun b hb hD => by rw [heap_alloc_old _ _ _ (Nat.lt_of_lt_of_le hb h.size)]; exact h.keep b hb hD⟩
theorem DenH.push {Γ : Ctx} {hp : List Ch} {w : World} (h : DenH Γ hp w) (o : Obj) (c : Ch)
  (hc : c.holds Γ (bases hp ++ [c.base]) (w.alloc o) (fun x => x = w.heap.size)) : DenH Γ (hp ++ [c]) (w.alloc o) := by
 obtain ⟨S, d⟩ := h
 have hf := d.fr.alloc o
 have hpre : ∃ bs, bases (hp ++ [c]) = Γ.b0 ++ bs := by
  obtain ⟨bs, hb⟩ := d.pre
  exact ⟨bs ++ bases [c], by rw [bases_append, hb, List.append_assoc]⟩
 refine ⟨fun k x => (k < hp.length ∧ S k x) ∨ (k = hp.length ∧ x = w.heap.size), hf, ?_, ?_, ?_, ?_, ?_, hpre⟩
 ·intro k c' hk
  rw [bases_append]
  by_cases hlt : k < hp.length
  ·rw [List.getElem?_append_left hlt] at hk
   have h1 := ((d.ch k c' hk).keep d.fr hf (by simp) (fun x hx => heap_alloc_old _ _ _ (d.dom k x hx))).ext (bs' := bases [c])
   have : (fun x => (k < hp.length ∧ S k x) ∨ (k = hp.length ∧ x = w.heap.size)) = S k := by
    funext x; apply propext; constructor
    ·rintro (⟨_, h⟩ | ⟨h, _⟩)
     ·exact h
     ·omega
    ·exact fun h => .inl ⟨hlt, h⟩
   rw [this]; exact h1
  ·rw [List.getElem?_append_right (by omega)] at hk
   have hk0 : k = hp.length := by
    have := (List.getElem?_eq_some_iff.1 hk).1
    simp at this; omega
   subst hk0
   simp at hk
   subst hk
   have : (fun x => (hp.length < hp.length ∧ S hp.length x) ∨ (hp.length = hp.length ∧ x = w.heap.size)) = fun x => x = w.heap.size := by
    funext x; apply propext; constructor
    ·rintro (⟨h, _⟩ | ⟨_, h⟩)
     ·omega
     ·exact h
    ·exact fun h => .inr ⟨rfl, h⟩
   rw [this]; exact hc
 ·rintro k k' x (⟨h1, h2⟩ | ⟨h1, h2⟩) (⟨h3, h4⟩ | ⟨h3, h4⟩)
  ·exact d.dj k k' x h2 h4
  ·have := d.dom k x h2; omega
  ·have := d.dom k' x h4; omega
  ·omega
 ·rintro k x (⟨_, h2⟩ | ⟨_, h2⟩) hx
  ·exact d.own k x h2 hx
  ·have := d.fr.size; omega
 ·rintro k x (⟨_, h2⟩ | ⟨_, h2⟩)
  ·have := d.dom k x h2; simp; omega
  ·simp; omega
 ·rintro k x (⟨h1, _⟩ | ⟨h1, _⟩) <;> simp <;> omega
end Go.Proofs.YtfoffehokhkohaaGreat
namespace Go.Proofs.YtfoffehokhkohaaGreat
open Go
def nth {α : Type} : List α → Nat → Option α
 | [], _ => none
 | x :: _, 0 => some x
 | _ :: l, n + 1 => nth l n
theorem nth_eq {α : Type} (l : List α) (n : Nat) : nth l n = l[n]? := by
 induction l generalizing n with
 | nil => simp [nth]
 | cons x l ih => cases n <;> simp [nth, ih]
theorem bases_set {hp : List Ch} {k : Nat} {c c' : Ch} (hk : hp[k]? = some c) (hb : c'.base = c.base) : bases (hp.set k c') = bases hp := by
 unfold bases
 rw [List.map_set, hb]
 apply List.ext_getElem?
 intro i
 rw [List.getElem?_set]
 by_cases h : k = i
 ·subst h
  have hlt := (List.getElem?_eq_some_iff.1 hk).1
  have he := (List.getElem?_eq_some_iff.1 hk).2
  simp [hlt, he]
 ·simp [h]
theorem DenH.upd {Γ : Ctx} {hp : List Ch} {w w' : World} {k : Nat} {c c' : Ch} (h : DenH Γ hp w) (hk : hp[k]? = some c) (hb : c'.base = c.base)
  (ho : w'.os = w.os) (hu : w'.output = w.output) (ht : w'.tape = w.tape) (hs : w'.heap.size = w.heap.size)
  (hw : ∀ S, c.holds Γ (bases hp) w S → (∀ x, S x → x < w.heap.size ∧ (x < Γ.w0.heap.size → Γ.D x)) → (∀ x, ¬ S x → w'.heap[x]? = w.heap[x]?) ∧ ∃ S' : Nat → Prop, (∀ x, S' x → S x) ∧ c'.holds Γ (bases hp) w' S') :
  DenH Γ (hp.set k c') w' := by
 obtain ⟨S, d⟩ := h
 obtain ⟨hoth, S', hsub, hc'⟩ := hw (S k) (d.ch k c hk) (fun x hx => ⟨d.dom k x hx, d.own k x hx⟩)
 have hlt : k < hp.length := (List.getElem?_eq_some_iff.1 hk).1
 have hf : Fr Γ.D Γ.w0 w' := ⟨ho.trans d.fr.os, hu.trans d.fr.output, ht.trans d.fr.tape, by rw [hs]; exact d.fr.size, fun b hb hD => by
  rw [hoth b (fun hS => hD (d.own k b hS hb))]; exact d.fr.keep b hb hD⟩
 refine ⟨fun j x => if j = k then S' x else S j x, hf, ?_, ?_, ?_, ?_, ?_, by rw [bases_set hk hb]; exact d.pre⟩
 ·intro j cj hj
  rw [bases_set hk hb]
  by_cases e : j = k
  ·subst e
   rw [List.getElem?_set_self hlt] at hj
   cases hj
   simpa using hc'
  ·rw [List.getElem?_set_ne (Ne.symm e)] at hj
   have := (d.ch j cj hj).keep d.fr hf (by omega) (fun x hx => hoth x (fun hS => e (d.dj j k x hx hS)))
   simpa [e] using this
 ·intro j j' x h1 h2
  by_cases e : j = k <;> by_cases e' : j' = k <;> simp only [e, e', if_true, if_false] at h1 h2 ⊢
  ·exact absurd (d.dj k j' x (hsub x h1) h2) (fun h => e' h.symm)
  ·exact absurd (d.dj j k x h1 (hsub x h2)) e
  ·exact d.dj j j' x h1 h2
 ·intro j x h1 hx
  by_cases e : j = k <;> simp only [e, if_true, if_false] at h1
  ·exact d.own k x (hsub x h1) hx
  ·exact d.own j x h1 hx
 ·intro j x h1
  rw [hs]
  by_cases e : j = k <;> simp only [e, if_true, if_false] at h1
  ·exact d.dom k x (hsub x h1)
  ·exact d.dom j x h1
 ·intro j x h1
  rw [List.length_set]
  by_cases e : j = k
  ·omega
  ·simp only [e, if_false] at h1; exact d.out j x h1
theorem DenH.weak {Γ : Ctx} {hp : List Ch} {w : World} {k : Nat} {c c' : Ch} (h : DenH Γ hp w) (hk : hp[k]? = some c) (hb : c'.base = c.base)
  (hw : ∀ S, c.holds Γ (bases hp) w S → ∃ S' : Nat → Prop, (∀ x, S' x → S x) ∧ c'.holds Γ (bases hp) w S') : DenH Γ (hp.set k c') w :=
 h.upd hk hb rfl rfl rfl rfl fun S hS _ => ⟨fun _ _ => rfl, hw S hS⟩
theorem DenH.gone {Γ : Ctx} {hp : List Ch} {w : World} {k : Nat} {c : Ch} (h : DenH Γ hp w) (hk : hp[k]? = some c) : DenH Γ (hp.set k (.gone c.base.1 c.base.2)) w :=
 h.weak hk rfl fun _ _ => ⟨fun _ => False, fun _ h => h.elim, fun _ h => h⟩
theorem DenH.at {Γ : Ctx} {hp : List Ch} {w : World} {k : Nat} {c : Ch} (h : DenH Γ hp w) (hk : hp[k]? = some c) : ∃ S, c.holds Γ (bases hp) w S := by
 obtain ⟨S, d⟩ := h
 exact ⟨S k, d.ch k c hk⟩
theorem heap_setCell_old (w : World) (a : Addr) (v : Value) (x : Nat) (h : x ≠ a.block) : (w.setCell a v).heap[x]? = w.heap[x]? := heap_setCell_other w a x v h
theorem heap_setCell_row {w : World} {b off : Nat} {cs : Array Value} {t : TypeId} {fz : Nat × Nat} {v : Value} (h : w.heap[b]? = some (.cells cs t fz)) :
  (w.setCell ⟨b, off, none⟩ v).heap[b]? = some (.cells (cs.setIfInBounds off v) t fz) := by
 have hlt : b < w.heap.size := (Array.getElem?_eq_some_iff.1 h).1
 simp only [World.setCell]
 rw [Array.getElem?_modify]
 simp [h]
theorem cell_box {Γ : Ctx} {bs : List Base} {w : World} {b ty : Nat} {l : List SV} {ex : Bool} {S : Nat → Prop} {off : Nat} {x : SV}
  (h : (Ch.box b ty l ex).holds Γ bs w S) (hx : l[off]? = some x) : w.cell? ⟨b, off, none⟩ = some (x.den bs) := by
 have := h.1
 simp [World.cell?, this, denL_map, hx]
theorem denL_set (bs : List Base) (l : List SV) (i : Nat) (x : SV) : SV.denL bs (l.set i x) = (SV.denL bs l).set i (x.den bs) := by
 simp [denL_map, List.map_set]
theorem hsL_set {n : Nat} {l : List SV} {i : Nat} {x : SV} (hl : SV.hsL n l = true) (hx : x.hs n = true) : SV.hsL n (l.set i x) = true := by
 rw [hsL_all, List.all_eq_true] at *
 intro y hy
 rcases List.mem_or_eq_of_mem_set hy with h | h
 ·exact hl y h
 ·exact h ▸ hx
theorem all_one_set {l : List SV} {i : Nat} {x : SV} (hl : l.all SV.one = true) (hx : x.one = true) : (l.set i x).all SV.one = true := by
 rw [List.all_eq_true] at *
 intro y hy
 rcases List.mem_or_eq_of_mem_set hy with h | h
 ·exact hl y h
 ·exact h ▸ hx
theorem DenH.storeBox {Γ : Ctx} {hp : List Ch} {w : World} {k b ty : Nat} {l : List SV} (h : DenH Γ hp w) (hk : hp[k]? = some (.box b ty l true)) (off : Nat) (x : SV)
  (hx : x.hs hp.length = true) (h1 : x.one = true) : DenH Γ (hp.set k (.box b ty (l.set off x) true)) (w.setCell ⟨b, off, none⟩ (x.den (bases hp))) := by
 refine h.upd hk rfl rfl rfl rfl (by simp) fun S hS _ => ?_
 obtain ⟨a1, a2, a3, a4⟩ := hS
 simp only [if_true] at a4
 refine ⟨fun y hy => heap_setCell_old _ _ _ _ (fun e => hy ((a4 y).2 e)), S, fun _ h => h, ?_, hsL_set a2 (by simpa using hx), all_one_set a3 h1, by simpa using a4⟩
 rw [heap_setCell_row a1, denL_set]
 simp
theorem cell_arr {Γ : Ctx} {bs : List Base} {w : World} {a : Option Addr} {n sp : Th Nat} {cs : List Col} {ex : Bool} {S : Nat → Prop} {i : Th Nat} {j : Nat} {c : Col}
  (h : (Ch.arr a n sp cs ex).holds Γ bs w S) (hi : i () < n ()) (hj : cs[j]? = some c) :
  ∃ ad, a = some ad ∧ w.cell? ⟨ad.block, ad.off + (i () * cs.length + j), none⟩ = some ((c.get i).den bs) := by
 obtain ⟨hok, h2⟩ := h
 cases a with
 | none => have := h2.1; omega
 | some ad =>
  obtain ⟨_, _, hc, _⟩ := h2
  have hl : c.vals.length = n () := (hok c (List.mem_of_getElem? hj)).1
  refine ⟨ad, rfl, hc _ _ ?_⟩
  rw [flat_get cs (n ()) (i ()) j c hi hj, c.get_den i bs (by omega)]
  rfl
def Col.set (bs : List Base) (c : Col) (i : Th Nat) (x : SV) : Option Col :=
 match c, x with
 | .b8 l, .int .u8 n => some (.b8 fun _ => (l ()).set (i ()) (UInt8.ofNat (n ()).toNat))
 | .nat .u16 l, .int .u16 n => some (.nat .u16 fun _ => (l ()).set (i ()) (n ()).toNat)
 | .nat .u32 l, .int .u32 n => some (.nat .u32 fun _ => (l ()).set (i ()) (n ()).toNat)
 | .nat .u64 l, .int .u64 n => some (.nat .u64 fun _ => (l ()).set (i ()) (n ()).toNat)
 | .int .i64 l, .int .i64 n => some (.int .i64 fun _ => (l ()).set (i ()) (n ()))
 | .bool l, .tt => some (.bool fun _ => (l ()).set (i ()) true)
 | .bool l, .ff => some (.bool fun _ => (l ()).set (i ()) false)
 | .bool l, .bl b => some (.bool fun _ => (l ()).set (i ()) (b ()))
 | .str l, .str s => some (.str fun _ => (l ()).set (i ()) (s ()))
 | .val l, x => match x.one with
  | true => some (.val fun _ => (l ()).set (i ()) (x.den bs))
  | false => none
 | _, _ => none
def Col.fits : Col → SV → Prop
 | .b8 _, .int _ n => 0 ≤ n () ∧ n () < 256
 | .nat _ _, .int _ n => 0 ≤ n ()
 | _, _ => True
theorem Col.set_vals {c c' : Col} {i : Th Nat} {x : SV} {bs : List Base} (h : c.set bs i x = some c') (hf : c.fits x) : c'.vals = c.vals.set (i ()) (x.den bs) ∧ (x.den bs).oneCell' = true := by
 unfold Col.set at h
 split at h
 case h_10 =>
  split at h
  ·rename_i ho
   cases h
   exact ⟨rfl, one_den ho⟩
  ·cases h
 all_goals simp only [Option.some.injEq, reduceCtorEq] at h
 all_goals subst h
 all_goals simp only [Col.vals, SV.den, List.map_set, Col.fits] at hf ⊢
 ·rename_i l n
  refine ⟨?_, rfl⟩
  congr 2
  have : (UInt8.ofNat (n ()).toNat).toNat = (n ()).toNat := by
   rw [UInt8.toNat_ofNat']; omega
  rw [this]; omega
 all_goals first
  | trivial
  | exact ⟨rfl, rfl⟩
  | (rename_i l n; refine ⟨?_, rfl⟩; rw [show ((n ()).toNat : Int) = n () by omega])
theorem flat_set (cs : List Col) (n i j : Nat) (c c' : Col) (v : Value) (hi : i < n) (hj : cs[j]? = some c) (hv : c'.vals = c.vals.set i v) (hl : c.vals.length = n) :
  flat (cs.set j c') n = (flat cs n).set (i * cs.length + j) v := by
 have hjl : j < cs.length := (List.getElem?_eq_some_iff.1 hj).1
 have hik : i * cs.length + j < n * cs.length := by
  calc i * cs.length + j < i * cs.length + cs.length := by omega
   _ = (i + 1) * cs.length := by rw [Nat.succ_mul]
   _ ≤ n * cs.length := Nat.mul_le_mul_right _ hi
 apply List.ext_getElem?
 intro m
 by_cases hm : m < n * cs.length
 ·have hpos : 0 < cs.length := by omega
  have e : m = m / cs.length * cs.length + m % cs.length := by rw [Nat.mul_comm]; exact (Nat.div_add_mod m cs.length).symm
  have hq : m / cs.length < n := Nat.div_lt_of_lt_mul (by rw [Nat.mul_comm]; exact hm)
  have hr : m % cs.length < cs.length := Nat.mod_lt _ hpos
  obtain ⟨cm, hcm⟩ : ∃ cm, cs[m % cs.length]? = some cm := ⟨cs[m % cs.length], by simp [hr]⟩
  have h1 := flat_get cs n _ _ cm hq hcm
  rw [← e] at h1
  by_cases hmj : m % cs.length = j
  ·have hcc : cm = c := by rw [hmj, hj] at hcm; exact (Option.some.inj hcm).symm
   subst hcc
   have h2 := flat_get (cs.set j c') n (m / cs.length) (m % cs.length) c' hq (by rw [hmj]; simp [hjl])
   rw [List.length_set, ← e] at h2
   rw [h2, hv]
   by_cases hmi : m / cs.length = i
   ·have : m = i * cs.length + j := by rw [e, hmi, hmj]
    rw [← this, List.getElem?_set_self (by rw [length_flat]; exact hm), hmi, List.getElem?_set_self (by omega)]
    rfl
   ·have hne : i * cs.length + j ≠ m := by
     intro he
     have hd : m / cs.length = i := by
      rw [← he, Nat.mul_comm, Nat.mul_add_div hpos, Nat.div_eq_of_lt hjl]; rfl
     exact hmi hd
    rw [List.getElem?_set_ne hne, h1, List.getElem?_set_ne (Ne.symm hmi)]
  ·have h2 := flat_get (cs.set j c') n (m / cs.length) (m % cs.length) cm hq (by rw [List.getElem?_set_ne (Ne.symm hmj)]; exact hcm)
   rw [List.length_set, ← e] at h2
   have hne : i * cs.length + j ≠ m := by
    intro he
    have hd : m % cs.length = j := by
     rw [← he, Nat.mul_comm, Nat.mul_add_mod, Nat.mod_eq_of_lt hjl]
    exact hmj hd
   rw [h2, List.getElem?_set_ne hne, h1]
 ·rw [List.getElem?_eq_none (by rw [length_flat, List.length_set]; omega), List.getElem?_eq_none (by rw [List.length_set, length_flat]; omega)]
theorem cell_setCell (w : World) (a a' : Addr) (v : Value) (hs : a.spot = none) (hs' : a'.spot = none) (hb : (w.cell? a).isSome = true) :
  (w.setCell a v).cell? a' = if a' = a then some v else w.cell? a' := by
 by_cases h : a' = a
 ·subst h
  obtain ⟨u, hu⟩ := Option.isSome_iff_exists.1 hb
  simp [World.cell?_setCell_same _ _ _ hu]
 ·simp [h, World.cell?_setCell_other _ _ _ _ (Ne.symm h)]
theorem CellsAt.set {w : World} {ad : Addr} {l : List Value} (h : CellsAt w ad l) (i : Nat) (v : Value) (hi : i < l.length) :
  CellsAt (w.setCell ⟨ad.block, ad.off + i, none⟩ v) ad (l.set i v) := by
 intro m u hm
 have hl : m < l.length := by have := (List.getElem?_eq_some_iff.1 hm).1; simpa using this
 obtain ⟨ui, hui⟩ : ∃ ui, l[i]? = some ui := ⟨l[i], by simp [hi]⟩
 rw [cell_setCell _ _ _ _ rfl rfl (by rw [h i ui hui]; rfl)]
 by_cases e : m = i
 ·subst e
  rw [List.getElem?_set_self hi] at hm
  simp [hm]
 ·rw [List.getElem?_set_ne (Ne.symm e)] at hm
  have : ¬ ((⟨ad.block, ad.off + m, none⟩ : Addr) = ⟨ad.block, ad.off + i, none⟩) := by
   intro he; injection he with _ he; omega
  rw [if_neg this]
  exact h m u hm
theorem Roomy.set {pl : Bool} {w : World} {ad : Addr} {n : Nat} (h : Roomy pl w ad n) (i : Nat) (v : Value) (hi : i < n) : Roomy pl (w.setCell ⟨ad.block, ad.off + i, none⟩ v) ad n := by
 refine ⟨fun m hm => ?_, fun hp o ho => ?_⟩
 ·refine ⟨by rw [World.frozen?_setCell]; exact (h.1 m hm).1, ?_⟩
  rw [cell_setCell _ _ _ _ rfl rfl (h.1 i hi).2]
  split
  ·rfl
  ·exact (h.1 m hm).2
 ·rw [World.frozen?_setCell]
  refine h.2 hp o ?_
  rw [cell_setCell _ _ _ _ rfl rfl (h.1 i hi).2] at ho
  split at ho
  ·cases ho
  ·exact ho
theorem Roomy.to {pl pl' : Bool} {w : World} {ad : Addr} {n : Nat} (h : Roomy pl w ad n) (hp : pl' = true → pl = true) : Roomy pl' w ad n := ⟨h.1, fun h' => h.2 (hp h')⟩
theorem Col.set_nat {bs : List Base} {c c' : Col} {i : Th Nat} {x : SV} (h : c.set bs i x = some c') (h' : c'.isNat = true) : c.isNat = true := by
 unfold Col.set at h
 split at h <;> first | (cases h; done) | (cases h; first | rfl | cases h') | skip
 split at h <;> first | (cases h; done) | (cases h; cases h')
theorem plain_set {cs : List Col} {j : Nat} {c c' : Col} (hj : cs[j]? = some c) (hc : c'.isNat = true → c.isNat = true) (h : plain (cs.set j c') = true) : plain cs = true := by
 unfold plain at *
 rw [List.all_eq_true] at *
 intro d hd
 obtain ⟨i, hi⟩ := List.mem_iff_getElem?.1 hd
 by_cases e : j = i
 ·subst e
  rw [hj] at hi
  cases hi
  exact hc (h c' (List.mem_of_getElem? (by rw [List.getElem?_set_self (List.getElem?_eq_some_iff.1 hj).1])))
 ·exact h d (List.mem_of_getElem? (by rw [List.getElem?_set_ne e]; exact hi))
theorem idx_lt {i j n k : Nat} (hi : i < n) (hj : j < k) : i * k + j < n * k := by
 calc i * k + j < i * k + k := by omega
  _ = (i + 1) * k := by rw [Nat.succ_mul]
  _ ≤ n * k := Nat.mul_le_mul_right _ hi
theorem DenH.storeArr {Γ : Ctx} {hp : List Ch} {w : World} {k : Nat} {a : Option Addr} {n sp : Th Nat} {cs : List Col} (h : DenH Γ hp w) (hk : hp[k]? = some (.arr a n sp cs true))
  (i : Th Nat) (j : Nat) (c c' : Col) (x : SV) (hi : i () < n ()) (hj : cs[j]? = some c) (hc : c.set (bases hp) i x = some c') (hf : c.fits x) :
  ∃ ad, a = some ad ∧ (w.cell? ⟨ad.block, ad.off + (i () * cs.length + j), none⟩).isSome = true ∧ w.frozen? ⟨ad.block, ad.off + (i () * cs.length + j), none⟩ = false ∧
  DenH Γ (hp.set k (.arr a n sp (cs.set j c') true)) (w.setCell ⟨ad.block, ad.off + (i () * cs.length + j), none⟩ (x.den (bases hp))) := by
 have hjl : j < cs.length := (List.getElem?_eq_some_iff.1 hj).1
 obtain ⟨S₀, h0⟩ := h.at hk
 cases a with
 | none => have := h0.2.1; omega
 | some ad =>
 obtain ⟨_, _, _, _, _, hr0⟩ := h0
 have hik : i () * cs.length + j < (n () + sp ()) * cs.length := idx_lt (by omega) hjl
 refine ⟨ad, rfl, (hr0.1 _ hik).2, (hr0.1 _ hik).1, ?_⟩
 refine h.upd hk (by simp [Ch.base]) rfl rfl rfl (by simp) fun S hS _ => ?_
 obtain ⟨hok, hsp, hlt, hca, hS, hun⟩ := hS
 have hl : c.vals.length = n () := (hok c (List.mem_of_getElem? hj)).1
 have hv := (Col.set_vals hc hf).1
 refine ⟨fun y hy => heap_setCell_old _ _ _ _ (fun e => hy ((hS y).2 e)), S, fun _ h => h, ?_, hsp, by simpa using hlt, ?_, ?_⟩
 ·intro c'' hm
  rcases List.mem_or_eq_of_mem_set hm with h' | h'
  ·exact hok c'' h'
  ·subst h'; rw [hv]
   refine ⟨by simpa using hl, fun v hvm => ?_⟩
   rcases List.mem_or_eq_of_mem_set hvm with h1 | h1
   ·exact (hok c (List.mem_of_getElem? hj)).2 v h1
   ·subst h1; exact (Col.set_vals hc hf).2
 ·rw [flat_set cs (n ()) (i ()) j c c' _ hi hj hv hl]
  exact hca.set _ _ (by rw [length_flat]; exact idx_lt hi hjl)
 ·simp only [if_true, List.length_set]
  exact ⟨hS, (hun.set _ _ hik).to (plain_set hj (Col.set_nat hc))⟩
end Go.Proofs.YtfoffehokhkohaaGreat
namespace Go.Proofs.YtfoffehokhkohaaGreat
open Go
structure VC (p q : Th Prop) : Prop where
 l : p ()
 r : q ()
structure BR (c : Th Bool) (t f : Th Prop) : Prop where
 t : c () = true → t ()
 f : c () = false → f ()
inductive ADD (a b : Th Int) (K : Th Int → Prop) : Prop where
 | mk (h : -9223372036854775808 ≤ a () + b () ∧ a () + b () < 9223372036854775808) (k : K fun _ => a () + b ())
 | wrap (k : K fun _ => IntKind.i64.wrap (a () + b ()))
structure EXV (Γ : Ctx) (hp : List Ch) (v : Th Value) (K : SV → List Ch → Prop) : Prop where
 h : ∃ x hp', (∀ w, DenH Γ hp w → DenH Γ hp' w ∧ v () = x.den (bases hp')) ∧ (∃ bs, bases hp' = bases hp ++ bs) ∧ K x hp'
def wr (k : IntKind) (n : Int) : Int := k.wrap n
def inI (n : Int) : Prop := -9223372036854775808 ≤ n ∧ n < 9223372036854775808
structure St where
 n : Nat
 tm : List (Nat × SV)
 hp : List Ch
 df : List (Fn × List SV × List SV)
def look : List (Nat × SV) → Nat → Option SV
 | [], _ => none
 | (t, x) :: l, d => match Nat.beq t d with
  | true => some x
  | false => look l d
def putT : List (Nat × SV) → Nat → SV → List (Nat × SV)
 | [], d, x => [(d, x)]
 | (t, y) :: l, d, x => match Nat.beq t d with
  | true => (t, x) :: l
  | false => (t, y) :: putT l d x
def dropT : List (Nat × SV) → Nat → List (Nat × SV)
 | [], _ => []
 | (t, y) :: l, d => match Nat.beq t d with
  | true => dropT l d
  | false => (t, y) :: dropT l d
def memN : List Nat → Nat → Bool
 | [], _ => false
 | t :: l, d => match Nat.beq t d with
  | true => true
  | false => memN l d
def St.put (st : St) (t : Nat) (x : SV) : St := ⟨st.n, putT st.tm t x, st.hp, st.df⟩
def svOf : Value → SV
 | .int k n => .int k fun _ => n
 | .bool true => .tt
 | .bool false => .ff
 | .string s => .str fun _ => s.data.toList
 | .pointer none => .nilp
 | .slice none 0 0 => .nils
 | .nilFunc => .nilf
 | v => .val fun _ => v
def svOfs : List Value → List SV
 | [] => []
 | v :: l => svOf v :: svOfs l
inductive CT where
 | b8
 | nat (k : IntKind)
 | int
 | bool
 | str
 | val (z : Value)
def ctOf : Value → CT
 | .int .u8 n => match n == 0 with | true => .b8 | false => .val (.int .u8 n)
 | .int .u16 n => match n == 0 with | true => .nat .u16 | false => .val (.int .u16 n)
 | .int .u32 n => match n == 0 with | true => .nat .u32 | false => .val (.int .u32 n)
 | .int .u64 n => match n == 0 with | true => .nat .u64 | false => .val (.int .u64 n)
 | .int .i64 n => match n == 0 with | true => .int | false => .val (.int .i64 n)
 | .bool false => .bool
 | .string s => match s.size == 0 with | true => .str | false => .val (.string s)
 | v => .val v
def CT.z : CT → Value
 | .b8 => .int .u8 0
 | .nat k => .int k 0
 | .int => .int .i64 0
 | .bool => .bool false
 | .str => .string .empty
 | .val z => z
def ctsOf : List Value → List CT
 | [] => []
 | v :: l => ctOf v :: ctsOf l
def CT.zero (n : Th Nat) : CT → Col
 | .b8 => .b8 fun _ => List.replicate (n ()) 0
 | .nat k => .nat k fun _ => List.replicate (n ()) 0
 | .int => .int .i64 fun _ => List.replicate (n ()) 0
 | .bool => .bool fun _ => List.replicate (n ()) false
 | .str => .str fun _ => List.replicate (n ()) []
 | .val z => .val fun _ => List.replicate (n ()) z
def zeroCols (n : Th Nat) : List CT → List Col
 | [] => []
 | c :: l => c.zero n :: zeroCols n l
def colB : List SV → Option (Th (List UInt8))
 | [] => some fun _ => []
 | .int .u8 n :: l => match colB l with
  | some r => some fun _ => UInt8.ofNat (n ()).toNat :: r ()
  | none => none
 | _ => none
def colN (k : IntKind) : List SV → Option (Th (List Nat))
 | [] => some fun _ => []
 | .int k' n :: l => match k == k', colN k l with
  | true, some r => some fun _ => (n ()).toNat :: r ()
  | _, _ => none
 | _ => none
def colI : List SV → Option (Th (List Int))
 | [] => some fun _ => []
 | .int .i64 n :: l => match colI l with
  | some r => some fun _ => n () :: r ()
  | none => none
 | _ => none
def colL : List SV → Option (Th (List Bool))
 | [] => some fun _ => []
 | .tt :: l => match colL l with
  | some r => some fun _ => true :: r ()
  | none => none
 | .ff :: l => match colL l with
  | some r => some fun _ => false :: r ()
  | none => none
 | .bl b :: l => match colL l with
  | some r => some fun _ => b () :: r ()
  | none => none
 | _ => none
def colS : List SV → Option (Th (List (List UInt8)))
 | [] => some fun _ => []
 | .str s :: l => match colS l with
  | some r => some fun _ => s () :: r ()
  | none => none
 | _ => none
def CT.col (bs : List Base) (c : CT) (l : List SV) : Option Col :=
 match c with
 | .b8 => match colB l with | some r => some (.b8 r) | none => none
 | .nat k => match colN k l with | some r => some (.nat k r) | none => none
 | .int => match colI l with | some r => some (.int .i64 r) | none => none
 | .bool => match colL l with | some r => some (.bool r) | none => none
 | .str => match colS l with | some r => some (.str r) | none => none
 | .val _ => some (.val fun _ => SV.denL bs l)
def fitB : List SV → Prop
 | .int _ n :: l => (0 ≤ n () ∧ n () < 256) ∧ fitB l
 | _ => True
def fitN : List SV → Prop
 | .int _ n :: l => 0 ≤ n () ∧ fitN l
 | _ => True
def CT.fit (c : CT) (l : List SV) : Prop :=
 match c with
 | .b8 => fitB l
 | .nat _ => fitN l
 | _ => True
inductive FK where
 | int
 | bool
 | str
inductive EqK where
 | bool
 | ptr
 | slice
 | func
 | flat (ks : List FK)
 | no
inductive SO where
 | mov (x : Operand)
 | pick (c a b : Operand)
 | alloc (ty : Nat) (z : List SV)
 | allocA (ty N : Nat) (cts : List CT)
 | box (ty : Nat) (x : Operand)
 | load1 (x : Operand)
 | loadN (m : Nat) (x : Operand)
 | loadA (N : Nat) (x : Operand)
 | store1 (x v : Operand)
 | storeN (m : Nat) (x v : Operand)
 | storeA (N : Nat) (x v : Operand)
 | nilck (x : Operand)
 | bin (op : BinOp) (ek : EqK) (x y : Operand)
 | un (op : UnOp) (x : Operand)
 | conv (k : IntKind) (x : Operand)
 | s2b (ty : Nat) (x : Operand)
 | b2s (x : Operand)
 | mkfn (f : Fn) (first caps : List Operand)
 | sliceStr (x : Operand) (lo hi : Option Operand)
 | slice (k : Nat) (x : Operand) (lo hi mx : Option Operand)
 | sliceA (N k : Nat) (x : Operand) (lo hi mx : Option Operand)
 | faddr (off : Nat) (x : Operand)
 | fld (off : Nat) (m : Option Nat) (x : Operand)
 | iaddr (k : Nat) (x i : Operand)
 | iaddrA (N k : Nat) (x i : Operand)
 | idxStr (x i : Operand)
 | extr (x : Operand) (i : Nat)
 | build (z : List SV) (parts : List ((Nat × Nat) × Operand))
 | bslice (ty len : Nat) (cts : List CT) (parts : List (Nat × Operand))
 | mkslice (ty bytes : Nat) (cts : List CT) (l c : Operand)
 | len (str : Bool) (x : Operand)
 | cap (x : Operand)
 | app (ty bytes : Nat) (cts : List CT) (x y : Operand)
 | appz (ty bytes : Nat) (cts : List CT) (x y : Operand)
 | copy (k : Nat) (x y : Operand)
 | clear (cts : List CT) (x : Operand)
 | min (x y : Operand)
 | min3 (x y z : Operand)
 | max (x y : Operand)
 | iface (t : Nat) (x : Operand)
 | callF (f : FuncId) (args : List Operand)
 | callV (x : Operand) (args : List Operand)
 | panic
 | defer (x : Operand)
structure SI where
 d : Option Nat
 o : SO
 g : Option (Nat × Bool)
def SV.cells : SV → Option (List SV)
 | .agg l => match l.all SV.one with | true => some l | false => none
 | x => match x.one with | true => some [x] | false => none
def evO (tm : List (Nat × SV)) (x : Operand) (K : SV → Prop) : Prop :=
 match x with
 | .tmp t => match look tm t with
  | some v => K v
  | none => False
 | .const v => K (svOf v)
 | .func f => K (.fn (.func f) [] [])
 | .global g => K (.pt fun _ => ⟨g, 0, none⟩)
def evOs (tm : List (Nat × SV)) : List Operand → (List SV → Prop) → Prop
 | [], K => K []
 | x :: l, K => evO tm x fun v => evOs tm l fun vs => K (v :: vs)
def evOpt (tm : List (Nat × SV)) (x : Option Operand) (K : Option SV → Prop) : Prop :=
 match x with
 | none => K none
 | some x => evO tm x fun v => K (some v)
abbrev KV := SV → List Ch → Prop
def subL (l : List SV) (off m : Nat) : List SV := (l.drop off).take m
def getCols : List Col → Th Nat → List SV
 | [], _ => []
 | c :: l, i => c.get i :: getCols l i
def sLoad1 (Γ : Ctx) (hp : List Ch) (x : SV) (K : KV) : Prop :=
 match x with
 | .bp h off => match nth hp h with
  | some (.box _ _ l _) => match nth l off with
   | some v => K v hp
   | none => False
  | _ => False
 | .ep h i j => match nth hp h with
  | some (.arr _ n _ cs _) => match nth cs j with
   | some (.val l) => VC (fun _ => i () < n ()) (fun _ => EXV Γ hp (fun _ => (l ()).getD (i ()) undef) K)
   | some c => VC (fun _ => i () < n ()) (fun _ => K (c.get i) hp)
   | none => False
  | _ => False
 | _ => False
def sLoadN (m : Nat) (hp : List Ch) (x : SV) (K : KV) : Prop :=
 match x with
 | .bp h off => match nth hp h with
  | some (.box _ _ l _) => match Nat.ble (off + m) l.length with
   | true => K (.agg (subL l off m)) hp
   | false => False
  | _ => False
 | .ep h i j => match nth hp h with
  | some (.arr _ n _ cs _) => match Nat.ble (j + m) cs.length with
   | true => VC (fun _ => i () < n ()) (fun _ => K (.agg (getCols ((cs.drop j).take m) i)) hp)
   | false => False
  | _ => False
 | _ => False
def sLoadA (N : Nat) (hp : List Ch) (x : SV) (K : KV) : Prop :=
 match x with
 | .ep h i 0 => match nth hp h with
  | some (.arr _ n _ [.nat k l] _) => VC (fun _ => i () = 0 ∧ n () = N ∧ 0 < N) (fun _ => K (.av k l) hp)
  | _ => False
 | _ => False
def unit : SV := .val fun _ => undef
def sStore1 (hp : List Ch) (x v : SV) (K : KV) : Prop :=
 match x with
 | .bp h off => match nth hp h with
  | some (.box b ty l true) => match Nat.blt off l.length, v.one, v.hs hp.length with
   | true, true, true => K unit (hp.set h (.box b ty (l.set off v) true))
   | _, _, _ => False
  | _ => False
 | .ep h i j => match nth hp h with
  | some (.arr a n sp cs true) => match nth cs j with
   | some c => match c.set (bases hp) i v with
    | some c' => VC (fun _ => i () < n () ∧ c.fits v) (fun _ => K unit (hp.set h (.arr a n sp (cs.set j c') true)))
    | none => False
   | none => False
  | _ => False
 | _ => False
def overL : List SV → Nat → List SV → List SV
 | l, _, [] => l
 | l, off, v :: vs => overL (l.set off v) (off + 1) vs
def sStoreN (m : Nat) (hp : List Ch) (x v : SV) (K : KV) : Prop :=
 match x, v with
 | .bp h off, .agg vs => match nth hp h with
  | some (.box b ty l true) => match Nat.beq vs.length m, Nat.ble (off + m) l.length, vs.all SV.one, SV.hsL hp.length vs with
   | true, true, true, true => K unit (hp.set h (.box b ty (overL l off vs) true))
   | _, _, _, _ => False
  | _ => False
 | _, _ => False
def sNilck (hp : List Ch) (x : SV) (K : KV) : Prop :=
 match x with
 | .bp h off => match nth hp h with
  | some (.box ..) => K x hp
  | _ => False
 | .ep h i j => match nth hp h with
  | some (.arr _ n _ _ _) => VC (fun _ => i () < n ()) (fun _ => K (.ep h i j) hp)
  | _ => False
 | .pt a => K (.pt a) hp
 | .op a => VC (fun _ => (a ()).isSome = true) (fun _ => K (.op a) hp)
 | .fn f a b => match f with
  | .func _ => K (.fn f a b) hp
  | _ => False
 | _ => False
def ari (op : BinOp) (k : IntKind) (a b : Int) : Int :=
 match op with
 | .add => k.wrap (a + b)
 | .sub => k.wrap (a - b)
 | .mul => k.wrap (a * b)
 | .quo => k.wrap (a.tdiv b)
 | .rem => a.tmod b
 | .and => k.wrap ((BitVec.ofInt k.bits a &&& BitVec.ofInt k.bits b).toNat)
 | .or => k.wrap ((BitVec.ofInt k.bits a ||| BitVec.ofInt k.bits b).toNat)
 | .xor => k.wrap ((BitVec.ofInt k.bits a ^^^ BitVec.ofInt k.bits b).toNat)
 | .andNot => k.wrap ((BitVec.ofInt k.bits a &&& ~~~ BitVec.ofInt k.bits b).toNat)
 | .shl => k.wrap (a * 2 ^ (Nat.min b.toNat k.bits))
 | .shr => a.fdiv (2 ^ (Nat.min b.toNat k.bits))
 | _ => 0
abbrev bless (a b : List UInt8) : Bool := Op.bytesLess a b
def eqB : SV → SV → Option (Th Bool)
 | .tt, .tt => some fun _ => true
 | .ff, .ff => some fun _ => true
 | .tt, .ff => some fun _ => false
 | .ff, .tt => some fun _ => false
 | .tt, .bl b => some fun _ => b ()
 | .bl b, .tt => some fun _ => b ()
 | .ff, .bl b => some fun _ => !b ()
 | .bl b, .ff => some fun _ => !b ()
 | .bl a, .bl b => some fun _ => a () == b ()
 | _, _ => none
def eqSV (k : FK) (x y : SV) : Option (Th Bool) :=
 match k with
 | .int => match x, y with
  | .int k a, .int k' b => match k == k' with | true => some fun _ => a () == b () | false => none
  | _, _ => none
 | .str => match x, y with
  | .str a, .str b => some fun _ => a () == b ()
  | _, _ => none
 | .bool => eqB x y
def eqSVs : List FK → List SV → List SV → Option (Th Bool)
 | [], [], [] => some fun _ => true
 | k :: ks, x :: l, y :: m => match eqSV k x y, eqSVs ks l m with
  | some a, some b => some fun _ => a () && b ()
  | _, _ => none
 | _, _, _ => none
def notSV (neg : Bool) (b : Th Bool) : SV := match neg with
 | true => .bl fun _ => !b ()
 | false => .bl b
def litSV (neg b : Bool) : SV := match neg, b with
 | true, true => .ff
 | true, false => .tt
 | false, true => .tt
 | false, false => .ff
def sEq (neg : Bool) (ek : EqK) (hp : List Ch) (x y : SV) (K : KV) : Prop :=
 match ek, x, y with
 | .bool, x, y => match eqB x y with
  | some b => K (notSV neg b) hp
  | none => False
 | .flat ks, .agg l, .agg m => match eqSVs ks l m with
  | some b => K (notSV neg b) hp
  | none => False
 | .ptr, .nilp, .nilp => K (litSV neg true) hp
 | .ptr, .pt _, .nilp => K (litSV neg false) hp
 | .ptr, .bp h _, .nilp => match nth hp h with
  | some (.box ..) => K (litSV neg false) hp
  | _ => False
 | .ptr, .op a, .nilp => K (notSV neg fun _ => (a ()).isNone) hp
 | .slice, .nils, .nils => K (litSV neg true) hp
 | .slice, .sl h a off len ext, .nils => K (notSV neg fun _ => (match (SV.sl h a off len ext).den (bases hp) with | .slice b _ _ => b.isNone | _ => true)) hp
 | .func, .fn .., .nilf => K (litSV neg false) hp
 | .func, .nilf, .nilf => K (litSV neg true) hp
 | _, _, _ => False
def sBin (op : BinOp) (ek : EqK) (hp : List Ch) (x y : SV) (K : KV) : Prop :=
 match op, x, y with
 | .shl, .int k a, .int _ b => VC (fun _ => 0 ≤ b ()) (fun _ => K (.int k fun _ => ari .shl k (a ()) (b ())) hp)
 | .shr, .int k a, .int _ b => VC (fun _ => 0 ≤ b ()) (fun _ => K (.int k fun _ => ari .shr k (a ()) (b ())) hp)
 | op, .int k a, .int k' b => match k == k' with
  | true => match op, k with
   | .add, .i64 => ADD a b (fun r => K (.int .i64 r) hp)
   | .sub, .i64 => VC (fun _ => inI (a () - b ())) (fun _ => K (.int .i64 fun _ => a () - b ()) hp)
   | .mul, .i64 => VC (fun _ => inI (a () * b ())) (fun _ => K (.int .i64 fun _ => a () * b ()) hp)
   | .quo, .i64 => VC (fun _ => b () ≠ 0 ∧ inI ((a ()).tdiv (b ()))) (fun _ => K (.int .i64 fun _ => (a ()).tdiv (b ())) hp)
   | .quo, k => VC (fun _ => b () ≠ 0) (fun _ => K (.int k fun _ => ari .quo k (a ()) (b ())) hp)
   | .rem, k => VC (fun _ => b () ≠ 0) (fun _ => K (.int k fun _ => (a ()).tmod (b ())) hp)
   | .eql, _ => K (.bl fun _ => a () == b ()) hp
   | .neq, _ => K (.bl fun _ => a () != b ()) hp
   | .lss, _ => K (.bl fun _ => decide (a () < b ())) hp
   | .leq, _ => K (.bl fun _ => decide (a () ≤ b ())) hp
   | .gtr, _ => K (.bl fun _ => decide (a () > b ())) hp
   | .geq, _ => K (.bl fun _ => decide (a () ≥ b ())) hp
   | op, k => K (.int k fun _ => ari op k (a ()) (b ())) hp
  | false => False
 | .add, .str a, .str b => VC (fun _ => ((a ()).length + (b ()).length : Nat) < 9223372036854775808) (fun _ => K (.str fun _ => a () ++ b ()) hp)
 | .eql, .str a, .str b => K (.bl fun _ => a () == b ()) hp
 | .neq, .str a, .str b => K (.bl fun _ => !(a () == b ())) hp
 | .lss, .str a, .str b => K (.bl fun _ => bless (a ()) (b ())) hp
 | .leq, .str a, .str b => K (.bl fun _ => bless (a ()) (b ()) || a () == b ()) hp
 | .gtr, .str a, .str b => K (.bl fun _ => !(bless (a ()) (b ()) || a () == b ())) hp
 | .geq, .str a, .str b => K (.bl fun _ => !bless (a ()) (b ())) hp
 | .eql, x, y => sEq false ek hp x y K
 | .neq, x, y => sEq true ek hp x y K
 | _, _, _ => False
def sUn (op : UnOp) (hp : List Ch) (x : SV) (K : KV) : Prop :=
 match op, x with
 | .not, .tt => K .ff hp
 | .not, .ff => K .tt hp
 | .not, .bl b => K (.bl fun _ => !b ()) hp
 | .neg, .int k a => K (.int k fun _ => ari .sub k 0 (a ())) hp
 | .xor, .int k a => K (.int k fun _ => ari .xor k (match k.signed with | true => -1 | false => k.max) (a ())) hp
 | _, _ => False
def sConv (k : IntKind) (hp : List Ch) (x : SV) (K : KV) : Prop :=
 match x with
 | .int _ n => K (.int k fun _ => wr k (n ())) hp
 | _ => False
def sS2b (ty : Nat) (hp : List Ch) (x : SV) (K : KV) : Prop :=
 match x with
 | .str s => ∀ b ext : Nat, K (.sl hp.length (fun _ => some ⟨b, 0, none⟩) (fun _ => 0) (fun _ => (s ()).length) (fun _ => ext))
   (hp ++ [.arr (some ⟨b, 0, none⟩) (fun _ => (s ()).length) (fun _ => ext) [.b8 s] true])
 | _ => False
def sB2s (hp : List Ch) (x : SV) (K : KV) : Prop :=
 match x with
 | .nils => K (.str fun _ => []) hp
 | .sl h _ off len _ => match nth hp h with
  | some (.arr _ n _ [.b8 l] _) => VC (fun _ => off () + len () ≤ n ()) (fun _ => K (.str fun _ => ((l ()).drop (off ())).take (len ())) hp)
  | _ => False
 | _ => False
def bnd (x : Option SV) (dflt : Th Nat) (K : Th Int → Prop) : Prop :=
 match x with
 | none => K fun _ => toI (dflt ())
 | some (.int _ n) => K n
 | _ => False
def sSliceStr (hp : List Ch) (x : SV) (lo hi : Option SV) (K : KV) : Prop :=
 match x with
 | .str s => bnd lo (fun _ => 0) fun l => bnd hi (fun _ => (s ()).length) fun h =>
   VC (fun _ => 0 ≤ l () ∧ l () ≤ h () ∧ h () ≤ toI (s ()).length) (fun _ => K (.str fun _ => ((s ()).take (h ()).toNat).drop (l ()).toNat) hp)
 | _ => False
def slAddr (bs : List Base) (h : Nat) (a : Th (Option Addr)) (off len ext : Th Nat) : Option Addr :=
 match (SV.sl h a off len ext).den bs with
 | .slice b _ _ => b
 | _ => none
def sSlice (k : Nat) (hp : List Ch) (x : SV) (lo hi mx : Option SV) (K : KV) : Prop :=
 match x with
 | .sl h a off len ext => match nth hp h with
  | some c => match Nat.beq c.base.2 k with
   | true => bnd lo (fun _ => 0) fun l => bnd mx (fun _ => len () + ext ()) fun m =>
     match hi, mx with
     | none, some _ => False
     | _, _ => bnd hi len fun u =>
      VC (fun _ => 0 ≤ l () ∧ l () ≤ u () ∧ u () ≤ m () ∧ m () ≤ toI (len () + ext ()))
       (fun _ => ∀ A : Option Addr, K (.sl h (fun _ => A)
        (fun _ => off () + (l ()).toNat) (fun _ => (u ()).toNat - (l ()).toNat) (fun _ => (m ()).toNat - (u ()).toNat)) hp)
   | false => False
  | none => False
 | .nils => bnd lo (fun _ => 0) fun l => bnd mx (fun _ => 0) fun m =>
   match hi, mx with
   | none, some _ => False
   | _, _ => bnd hi (fun _ => 0) fun u => VC (fun _ => l () = 0 ∧ u () = 0 ∧ m () = 0) (fun _ => K .nils hp)
 | _ => False
def sSliceA (N k : Nat) (hp : List Ch) (x : SV) (lo hi mx : Option SV) (K : KV) : Prop :=
 match x with
 | .ep h i 0 => match nth hp h with
  | some (.arr (some ad) n _ cs _) => match Nat.beq cs.length k with
   | true => bnd lo (fun _ => 0) fun l => bnd mx (fun _ => N) fun m =>
     match hi, mx with
     | none, some _ => False
     | _, _ => bnd hi (fun _ => N) fun u =>
      VC (fun _ => 0 ≤ l () ∧ l () ≤ u () ∧ u () ≤ m () ∧ m () ≤ toI N ∧ i () + N ≤ n ())
       (fun _ => ∀ A : Option Addr, K (.sl h (fun _ => A)
        (fun _ => i () + (l ()).toNat) (fun _ => (u ()).toNat - (l ()).toNat) (fun _ => (m ()).toNat - (u ()).toNat)) hp)
   | false => False
  | _ => False
 | _ => False
def sFaddr (off : Nat) (hp : List Ch) (x : SV) (K : KV) : Prop :=
 match x with
 | .bp h o => match nth hp h with
  | some (.box ..) => K (.bp h (o + off)) hp
  | _ => False
 | .ep h i j => match nth hp h with
  | some (.arr _ n _ _ _) => VC (fun _ => i () < n ()) (fun _ => K (.ep h i (j + off)) hp)
  | _ => False
 | _ => False
def sFld (off : Nat) (m : Option Nat) (hp : List Ch) (x : SV) (K : KV) : Prop :=
 match x with
 | .agg l => match m with
  | some m => match Nat.ble (off + m) l.length with
   | true => K (.agg (subL l off m)) hp
   | false => False
  | none => match nth l off with
   | some v => K v hp
   | none => False
 | _ => False
def sIaddr (k : Nat) (hp : List Ch) (x i : SV) (K : KV) : Prop :=
 match x, i with
 | .sl h _ off len _, .int _ n => match nth hp h with
  | some (.arr _ N _ cs _) => match Nat.beq cs.length k with
   | true => VC (fun _ => 0 ≤ n () ∧ n () < toI (len ()) ∧ off () + (n ()).toNat < N ()) (fun _ => K (.ep h (fun _ => off () + (n ()).toNat) 0) hp)
   | false => False
  | _ => False
 | _, _ => False
def sIaddrA (N k : Nat) (hp : List Ch) (x i : SV) (K : KV) : Prop :=
 match x, i with
 | .ep h i0 0, .int _ n => match nth hp h with
  | some (.arr _ M _ cs _) => match Nat.beq cs.length k with
   | true => VC (fun _ => 0 ≤ n () ∧ n () < toI N ∧ i0 () + (n ()).toNat < M ()) (fun _ => K (.ep h (fun _ => i0 () + (n ()).toNat) 0) hp)
   | false => False
  | _ => False
 | _, _ => False
def sIdxStr (hp : List Ch) (x i : SV) (K : KV) : Prop :=
 match x, i with
 | .str s, .int _ n => VC (fun _ => 0 ≤ n () ∧ n () < toI (s ()).length) (fun _ => K (.int .u8 fun _ => toI ((s ()).getD (n ()).toNat 0).toNat) hp)
 | _, _ => False
def sExtr (i : Nat) (hp : List Ch) (x : SV) (K : KV) : Prop :=
 match x with
 | .tup l => match nth l i with
  | some v => K v hp
  | none => False
 | _ => False
def fillL : List SV → List ((Nat × Nat) × SV) → Option (List SV)
 | z, [] => some z
 | z, ((off, m), v) :: l => match v.cells with
  | some vs => match Nat.beq vs.length m, Nat.ble (off + m) z.length with
   | true, true => fillL (overL z off vs) l
   | _, _ => none
  | none => none
def evParts (tm : List (Nat × SV)) : List ((Nat × Nat) × Operand) → (List ((Nat × Nat) × SV) → Prop) → Prop
 | [], K => K []
 | (p, x) :: l, K => evO tm x fun v => evParts tm l fun vs => K ((p, v) :: vs)
def sBuild (z : List SV) (parts : List ((Nat × Nat) × SV)) (hp : List Ch) (K : KV) : Prop :=
 match fillL z parts with
 | some l => K (.agg l) hp
 | none => False
end Go.Proofs.YtfoffehokhkohaaGreat
