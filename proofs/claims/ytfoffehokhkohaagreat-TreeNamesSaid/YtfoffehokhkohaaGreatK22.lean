/- Part 22 of what is proved in the last text (packed by a program of mine). -/
import Derived.Test.YtfoffehokhkohaaGreatK11
import Derived.Test.YtfoffehokhkohaaGreatK12
import Derived.Test.YtfoffehokhkohaaGreatK13
import Derived.Test.YtfoffehokhkohaaGreatK15
import Derived.Test.YtfoffehokhkohaaGreatK20
import Derived.Test.YtfoffehokhkohaaGreatK21
set_option linter.all false
namespace Go.Proofs.YtfoffehokhkohaaGreat
open Go
abbrev Ent := List (Nat × Nat)
structure Nd where
 tag : Nat
 keys : List Nat
 vals : List Nat
 kids : List Nat
def Nd.data (x : Nd) : Bytes := if x.tag = 4 then (x.keys.zip x.vals).flatMap fun e => leB e.1 8 ++ leB e.2 8 else x.keys.flatMap (leB · 8)
def Nd.page (x : Nd) : Page := ⟨x.tag, x.kids, x.data⟩
def Nd.part (x : Nd) (a b : Nat) : Nd := ⟨x.tag, subl x.keys a (b - a), subl x.vals a (b - a), subl x.kids a (b - a)⟩
def leafTag (r : Bool) : Nat := if r = true then 5 else 4
def leafNd (r : Bool) (l : Ent) : Nd := ⟨leafTag r, l.map (·.1), if r = true then [] else l.map (·.2), if r = true then l.map (·.2) else []⟩
def hd (l : Ent) : Nat := (l.headD (0, 0)).1
class VPg where
 vp : Page
variable [VPg]
def NR0 (pg : PG) (r : Bool) (x : Nd) (ls : List Ent) : Prop := ∃ l : Ent, ls = l.map (fun e => [e]) ∧ x = leafNd r l ∧ ∀ k ∈ x.kids, pg k = VPg.vp
def NR1 (R : Nat → Ent → Prop) (x : Nd) (ls : List Ent) : Prop := ∃ ks : List Nat, x = ⟨3, ls.map hd, [], ks⟩ ∧ ks.length = ls.length ∧ ∀ p ∈ ks.zip ls, R p.1 p.2
def Rep (pg : PG) (r : Bool) : Nat → Nat → Ent → Prop
 | 0 => fun n l => ∃ x ls, NR0 pg r x ls ∧ pg n = x.page ∧ l = ls.flatten ∧ 1 ≤ ls.length
 | h + 1 => fun n l => ∃ x ls, NR1 (Rep pg r h) x ls ∧ pg n = x.page ∧ l = ls.flatten ∧ 2 ≤ ls.length
def NR (pg : PG) (r : Bool) : Nat → Nd → List Ent → Prop
 | 0 => NR0 pg r
 | h + 1 => NR1 (Rep pg r h)
def least (h : Nat) : Nat := if h = 0 then 1 else 2
theorem rep_iff {pg : PG} {r : Bool} {h n : Nat} {l : Ent} : Rep pg r h n l ↔ ∃ x ls, NR pg r h x ls ∧ pg n = x.page ∧ l = ls.flatten ∧ least h ≤ ls.length := by
 cases h <;> exact Iff.rfl
theorem mem_zip {α β : Type} {l : List α} {m : List β} {i : Nat} {a : α} {b : β} (h1 : l[i]? = some a) (h2 : m[i]? = some b) : (a, b) ∈ l.zip m :=
 List.mem_iff_getElem?.2 ⟨i, by rw [List.getElem?_zip_eq_some]; exact ⟨h1, h2⟩⟩
theorem Rep.ne {pg : PG} {r : Bool} : ∀ {h n : Nat} {l : Ent}, Rep pg r h n l → l ≠ []
 | 0, n, l, ⟨x, ls, ⟨m, h1, h2⟩, h3, h4, h5⟩ => by
  subst h1
  cases m with
  | nil => simp at h5
  | cons e m => subst h4; simp
 | h + 1, n, l, ⟨x, ls, ⟨ks, h1, h2, h6⟩, h3, h4, h5⟩ => by
  cases ls with
  | nil => simp at h5
  | cons a ls =>
   cases ks with
   | nil => simp at h2
   | cons k ks =>
    have := (h6 (k, a) (by simp)).ne
    subst h4
    intro he
    rw [List.flatten_cons] at he
    exact this (List.append_eq_nil_iff.1 he).1
theorem NR.ne {pg : PG} {r : Bool} {h : Nat} {x : Nd} {ls : List Ent} (H : NR pg r h x ls) : ∀ l ∈ ls, l ≠ [] := by
 intro l hl
 cases h with
 | zero =>
  obtain ⟨m, rfl, _⟩ := H
  obtain ⟨e, _, rfl⟩ := List.mem_map.1 hl
  simp
 | succ h =>
  obtain ⟨ks, _, h2, h3⟩ := H
  obtain ⟨i, hi⟩ := List.mem_iff_getElem?.1 hl
  have hlt := (List.getElem?_eq_some_iff.1 hi).1
  exact (h3 (ks[i]'(by omega), l) (mem_zip (List.getElem?_eq_getElem (by omega)) hi)).ne
theorem NR.keys {pg : PG} {r : Bool} {h : Nat} {x : Nd} {ls : List Ent} (H : NR pg r h x ls) : x.keys = ls.map hd := by
 cases h with
 | zero =>
  obtain ⟨m, rfl, rfl, _⟩ := H
  rw [List.map_map]; rfl
 | succ h =>
  obtain ⟨ks, rfl, h2, h3⟩ := H
  rfl
theorem NR.tag {pg : PG} {r : Bool} {h : Nat} {x : Nd} {ls : List Ent} (H : NR pg r h x ls) : x.tag = if h = 0 then leafTag r else 3 := by
 cases h with
 | zero => obtain ⟨m, rfl, rfl, _⟩ := H; rfl
 | succ h => obtain ⟨ks, rfl, h2, h3⟩ := H; rfl
theorem zip_take {α β : Type} (l : List α) (m : List β) (n : Nat) : (l.zip m).take n = (l.take n).zip (m.take n) := by unfold List.zip; rw [List.take_zipWith]
theorem zip_drop {α β : Type} (l : List α) (m : List β) (n : Nat) : (l.zip m).drop n = (l.drop n).zip (m.drop n) := by unfold List.zip; rw [List.drop_zipWith]
theorem subl_map {α β : Type} (f : α → β) (l : List α) (a n : Nat) : subl (l.map f) a n = (subl l a n).map f := by
 unfold subl; rw [List.map_take, List.map_drop]
theorem subl_nil {α : Type} (a n : Nat) : subl ([] : List α) a n = [] := by
 unfold subl; simp
theorem NR.part {pg : PG} {r : Bool} {h : Nat} {x : Nd} {ls : List Ent} (H : NR pg r h x ls) (a b : Nat) : NR pg r h (x.part a b) (subl ls a (b - a)) := by
 cases h with
 | zero =>
  obtain ⟨m, rfl, rfl, hv⟩ := H
  refine ⟨subl m a (b - a), subl_map _ _ _ _, ?_, fun k hk => hv k (List.mem_of_mem_drop (List.mem_of_mem_take hk))⟩
  unfold leafNd Nd.part
  cases r
  ·simp only [subl_map, subl_nil, Bool.false_eq_true, if_false]
  ·simp only [subl_map, subl_nil, if_true]
 | succ h =>
  obtain ⟨ks, rfl, h2, h3⟩ := H
  refine ⟨subl ks a (b - a), ?_, ?_, fun p hp => h3 p ?_⟩
  ·unfold Nd.part; simp only [subl_map, subl_nil]
  ·unfold subl; simp only [List.length_take, List.length_drop, h2]
  ·unfold subl at hp
   rw [← zip_take, ← zip_drop] at hp
   exact List.mem_of_mem_drop (List.mem_of_mem_take hp)
theorem NR.kids {pg : PG} {r : Bool} {h : Nat} {x : Nd} {ls : List Ent} (H : NR pg r h x ls) : x.kids.length = if h = 0 ∧ r = false then 0 else ls.length := by
 cases h with
 | zero => obtain ⟨m, rfl, rfl, _⟩ := H; cases r <;> simp [leafNd]
 | succ h => obtain ⟨ks, rfl, h2, h3⟩ := H; simpa using h2
theorem NR.vals {pg : PG} {r : Bool} {h : Nat} {x : Nd} {ls : List Ent} (H : NR pg r h x ls) : x.vals.length = if h = 0 ∧ r = false then ls.length else 0 := by
 cases h with
 | zero => obtain ⟨m, rfl, rfl, _⟩ := H; cases r <;> simp [leafNd]
 | succ h => obtain ⟨ks, rfl, h2, h3⟩ := H; simp
structure EntOk (l : Ent) : Prop where
 srt : (l.map (·.1)).Pairwise (· < ·)
 lt : ∀ e ∈ l, e.1 < 18446744073709551616 ∧ e.2 < 18446744073709551616
theorem EntOk.sub {l m : Ent} (h : EntOk l) (hs : List.Sublist m l) : EntOk m :=
 ⟨h.srt.sublist (hs.map _), fun e he => h.lt e (hs.subset he)⟩
theorem hd_sub : ∀ {ls : List Ent}, (∀ l ∈ ls, l ≠ []) → List.Sublist (ls.map hd) (ls.flatten.map (·.1))
 | [], _ => List.Sublist.refl _
 | [] :: ls, h => absurd rfl (h [] List.mem_cons_self)
 | (e :: l) :: ls, h => by
  have ih := hd_sub (ls := ls) (fun m hm => h m (List.mem_cons_of_mem _ hm))
  simp only [List.map_cons, List.flatten_cons, List.map_append, List.cons_append]
  exact List.Sublist.cons₂ _ (ih.trans (List.sublist_append_right _ _))
theorem NR.keysOk {pg : PG} {r : Bool} {h : Nat} {x : Nd} {ls : List Ent} (H : NR pg r h x ls) (he : EntOk ls.flatten) : x.keys.Pairwise (· < ·) ∧ ∀ k ∈ x.keys, k < 18446744073709551616 := by
 rw [H.keys]
 have hs := hd_sub H.ne
 refine ⟨he.srt.sublist hs, fun k hk => ?_⟩
 obtain ⟨e, he2, rfl⟩ := List.mem_map.1 (hs.subset hk)
 exact (he.lt e he2).1
theorem flatten_single {α : Type} (l : List α) : (l.map fun e => [e]).flatten = l := by
 induction l with
 | nil => rfl
 | cons a l ih => simp [ih]
end Go.Proofs.YtfoffehokhkohaaGreat
set_option maxRecDepth 20000
namespace Go.Proofs.YtfoffehokhkohaaGreat
open Go
theorem callP_box {Γ : Ctx} {f : FuncId} {args : List SV} {hp : List Ch} {K : KV} (i : Nat) {b ty : Nat} {l : List SV} {ex : Bool} (l' : List SV) (hi : hp[i]? = some (.box b ty l ex)) (hd : SV.denL (bases hp) l' = SV.denL (bases hp) l) (h1 : SV.hsL hp.length l' = true) (h2 : l'.all SV.one = true)
  (h : CallP Γ f args (hp.set i (.box b ty l' ex)) K) : CallP Γ f args hp K := by
 have hb : bases (hp.set i (.box b ty l' ex)) = bases hp := bases_set hi rfl
 refine ⟨fun w hw => ?_⟩
 have hw2 : DenH Γ (hp.set i (.box b ty l' ex)) w := by
  refine hw.weak hi rfl fun S hS => ?_
  obtain ⟨a1, a2, a3, a4⟩ := hS
  exact ⟨S, fun _ h => h, by rw [a1, hd], by simpa using h1, h2, a4⟩
 have := h.h w hw2
 rw [hb] at this
 refine this.mono ?_
 rintro e w' ⟨x, hp', h3, h4, h5, h6, h7⟩
 exact ⟨x, hp', h3, h4, h5, (by obtain ⟨bs, hbs⟩ := h6; exact ⟨bs, by rw [hbs, hb]⟩), h7⟩
theorem tree_words (ks : List Nat) (n : Nat) (hn : ks.length = n) (hn1 : n ≤ 1000000) (hk : ∀ k ∈ ks, k < 18446744073709551616) :
  FnSpec Tryz.prog 176 [] [.str fun _ => ks.flatMap (leB · 8)]
   (fun v hp => ∃ (a ad : Option Addr) (e : Nat), v = .tup [.sl 0 (fun _ => a) (fun _ => 0) (fun _ => n) (fun _ => e), .tt] ∧ hp = [.arr ad (fun _ => n) (fun _ => e) [.nat .u64 fun _ => ks] true]) := by
 obtain ⟨d, hd⟩ : ∃ d, d = ks.flatMap (leB · 8) := ⟨_, rfl⟩
 have hdl : d.length = 8 * n := by rw [hd, flatMap_leB_length, hn]
 have hpc : ∀ k, k < n → ofLE (subl d (8 * k) 8) = ks.getD k 0 := by
  intro k hk1
  have e : ks = ks.take k ++ (ks[k] :: ks.drop (k + 1)) := by rw [List.getElem_cons_drop, List.take_append_drop]
  have e2 : d = (ks.take k).flatMap (leB · 8) ++ (leB ks[k] 8 ++ (ks.drop (k + 1)).flatMap (leB · 8)) := by
   rw [hd]
   conv => lhs; rw [e]
   rw [List.flatMap_append, List.flatMap_cons]
  rw [e2, subl_app _ (leB ks[k] 8) _ (8 * k) 8 (by rw [flatMap_leB_length, List.length_take]; omega) (by simp), ofLE_leB, List.getD_eq_getElem?_getD, List.getElem?_eq_getElem (by omega)]
  exact Nat.mod_eq_of_lt (hk _ (List.getElem_mem _))
 rw [← hd]
 refine spec_cl mixed F176 rfl rfl rfl (fun Γ hΓ hb => ?_)
 cbv
 intro bo
 cbv
 intro bs e0
 cbv
 obtain ⟨D, hD⟩ : ∃ D, d.length = D := ⟨_, rfl⟩
 rw [hD]
 rw [hD] at hdl
 have htk : ∀ k, k < n → ks.take (k + 1) = ks.take k ++ [ks.getD k 0] := fun k hk => by
  rw [List.take_add_one, List.getElem?_eq_getElem (by omega), List.getD_eq_getElem?_getD, List.getElem?_eq_getElem (by omega)]; rfl
 have hT0 : ∀ k, k ≤ n → (ks.take k).length = k := fun k hk => by rw [List.length_take]; omega
 have hNn : (D + 8 - 1) / 8 = n := by omega
 have hmod : (toI D).tmod 8 = 0 := by
  simp only [toI]
  rw [Int.tmod_eq_emod_of_nonneg (by omega)]
  omega
 have his := fun b1 b2 => chunk_b (some ⟨bs, 0, none⟩) (some ⟨bs, 0, none⟩) D e0 0 D e0 8 b1 b2 109 3 d hD (by omega) (by omega) (by omega) (by omega)
 rw [hNn] at his
 refine cP hΓ (chunk_b0 (some ⟨bs, 0, none⟩) (some ⟨bs, 0, none⟩) D e0 0 D e0 8 d (by omega)) [1] ?_
 rintro x hp' ⟨b1, b2, rfl, rfl⟩
 refine ⟨rfl, ?_⟩
 cbv
 refine ⟨_, fun _ _ h => h, ?_⟩
 cbv
 refine RangeP0.to ?_
 refine ⟨[2, 3, 1, 5, 0], [.box b1 109 [.sl 2 (fun _ => some ⟨bs, 0, none⟩) (fun _ => 0) (fun _ => D) (fun _ => e0)] true, .box b2 3 [.int .i64 fun _ => toI 8] true, .arr (some ⟨bs, 0, none⟩) (fun _ => D) (fun _ => e0) [.b8 fun _ => d] false], [.box bo 39 [.nils] true], [(2, .bp 4 0)], [], [.bp 0 0, .bp 1 0],
  by simp, rfl, rfl, ⟨rfl, trivial⟩, rfl, by simp, fun rd rr => ⟨⟨_, rfl, .inl rfl⟩, ⟨_, rfl, .inl rfl⟩, ⟨_, rfl, .inr ⟨rfl, rfl⟩⟩, ⟨_, rfl, .inl rfl⟩, ⟨_, rfl, .inl rfl⟩, trivial⟩, ?_⟩
 refine ⟨Option (Option Addr × Option Addr × Nat × Nat), Empty, fun k q => match q with | none => k = 0 | some (_, _, _, j) => j = k ∧ 1 ≤ k, fun q => match q with
   | none => [.box bo 39 [.nils] true]
   | some (q1, q2, q3, j) => [.box bo 39 [.sl 5 (fun _ => q1) (fun _ => 0) (fun _ => j) (fun _ => q3)] true, .arr q2 (fun _ => j) (fun _ => q3) [.nat .u64 fun _ => ks.take j] true],
  fun e => e.elim, fun e => e.elim, _, none, hΓ ▸ his b1 b2, ?_, rfl, rfl, ?_, fun e => e.elim, ?_, ?_, fun e => e.elim⟩
 ·intro xs hx
  obtain ⟨k, _, rfl⟩ := List.mem_map.1 hx
  rfl
 ·rintro (_ | ⟨q1, q2, q3, j⟩)
  ·exact ⟨rfl, rfl, [], rfl⟩
  ·exact ⟨rfl, rfl, _, rfl⟩
 ·rintro k q xs Γ' r1 r2 hk' hq hΓ' hb'
  have hΓ' : Γ'.P = Tryz.prog := hΓ'.trans hΓ
  have hkl : k < n := by
   have := (List.getElem?_eq_some_iff.1 hk').1
   simpa using this
  have hxs : xs = chk 0 D 8 k := by
   rw [List.getElem?_map, List.getElem?_range hkl] at hk'
   exact (Option.some.inj hk').symm
  have hch : chk 0 D 8 k = [.sl 2 (fun _ => none) (fun _ => 8 * k) (fun _ => 8) (fun _ => 0)] := by
   unfold chk
   rw [show 0 + k * 8 = 8 * k by omega, show min 8 (D - k * 8) = 8 by omega]
  rw [hch] at hxs
  subst hxs
  have hOf := octet_Of (some ⟨bs, 0, none⟩) none D e0 (8 * k) 8 0 d hD (by omega) (by omega)
  rw [hpc k hkl] at hOf
  have hnx := htk k hkl
  have hl0 := hT0 k (by omega)
  revert hOf hnx hl0
  generalize ks.getD k 0 = x
  generalize hk0 : ks.take k = t0
  generalize hk2 : ks.take (k + 1) = t1
  intro hOf hnx hl0
  cases q with
  | none =>
   have hq : k = 0 := hq
   cbv
   refine ⟨⟨rfl⟩, ?_⟩
   cbv
   refine callP_by hΓ' hOf [2] (by simp) ⟨⟨_, rfl, .inr ⟨rfl, rfl⟩⟩, trivial⟩ rfl ?_
   rintro x' hp' ⟨rfl, rfl⟩
   refine ⟨rfl, ?_⟩
   cbv
   refine VC.mk rf ?_
   cbv
   refine VC.mk ⟨rf, trivial⟩ fun b3 => ?_
   cbv
   refine VC.mk rf ?_
   cbv
   refine VC.mk rf fun a3 e3 => ?_
   cbv
   refine RoundTo.by [.box bo 39 [.sl 5 (fun _ => a3) (fun _ => 0) (fun _ => k + 1) (fun _ => e3)] true, .arr a3 (fun _ => k + 1) (fun _ => e3) [.nat .u64 fun _ => t1] true] [.one 0, .one 1, .one 2, .one 3, .one 4, .one 6] 4 hb' rfl rfl (nodup_of rfl) rfl ?_ ⟨some (a3, a3, e3, k + 1), ⟨rfl, by omega⟩, by show _ = [_, Ch.arr a3 (fun _ => k + 1) (fun _ => e3) [.nat .u64 fun _ => ks.take (k + 1)] true]; rw [hk2]⟩
   have ht0 : t0 = [] := List.eq_nil_of_length_eq_zero (hl0.trans hq)
   rw [ht0] at hnx
   subst hq
   cbv
   (repeat' first | with_reducible rfl | exact (show Ch.base _ = _ from rfl) | ((try simp only [toI, inI, List.length_nil] at *); omega) | exact trivial | refine ⟨?_, ?_⟩ | refine ⟨?_⟩ | intro _)
   rw [hnx, toI_toNat]
   rfl
  | some q =>
   obtain ⟨q1, q2, q3, j⟩ := q
   obtain ⟨rfl, hk1⟩ := hq
   cbv
   rw [hk0]
   refine ⟨⟨rfl⟩, ?_⟩
   refine callP_by hΓ' hOf [2] (by simp) ⟨⟨_, rfl, .inr ⟨rfl, rfl⟩⟩, trivial⟩ rfl ?_
   rintro x' hp' ⟨rfl, rfl⟩
   refine ⟨rfl, ?_⟩
   cbv
   refine VC.mk rf ?_
   cbv
   refine VC.mk ⟨rf, trivial⟩ fun b3 => ?_
   cbv
   refine VC.mk rf ?_
   cbv
   refine .any (VC.mk rf fun a3 a4 e3 hx3 => ?_)
   cbv
   refine RoundTo.by [.box bo 39 [.sl 5 (fun _ => a4) (fun _ => 0) (fun _ => j + 1) (fun _ => e3)] true, .arr a3 (fun _ => j + 1) (fun _ => e3) [.nat .u64 fun _ => t1] true] [.one 0, .one 1, .one 2, .one 3, .one 4, .one 7] 4 hb' rfl rfl (nodup_of rfl) rfl ?_ ⟨some (a4, a3, e3, j + 1), ⟨rfl, by omega⟩, by show _ = [_, Ch.arr a3 (fun _ => j + 1) (fun _ => e3) [.nat .u64 fun _ => ks.take (j + 1)] true]; rw [hk2]⟩
   cbv
   (repeat' first | with_reducible rfl | exact (show Ch.base _ = _ from rfl) | ((try simp only [toI, inI, List.length_nil] at *); omega) | exact trivial | refine ⟨?_, ?_⟩ | refine ⟨?_⟩ | intro _)
   rw [hnx, toI_toNat, List.drop_zero, List.take_of_length_le (Nat.le_of_eq hl0)]
   rfl
 ·rintro q hq dd rr r'
  rw [List.length_map, List.length_range] at hq
  cases q with
  | none =>
   have hq : n = 0 := hq
   refine ⟨rfl, ?_⟩
   cbv
   refine VC.mk (by omega) ?_
   cbv
   refine VC.mk rf ?_
   cbv
   rw [hD]
   refine Cl.den (v' := .tup [.nils, .tt]) ?_ (by simp [SV.den, SV.denL, hmod])
   refine Cl.nil [.nat .u64] rfl ?_
   cbv
   refine Cl.by (v' := .tup [.sl 0 (fun _ => none) (fun _ => 0) (fun _ => n) (fun _ => 0), .tt]) [.one 6] 0 hb rfl rfl (nodup_of rfl) (hp' := [.arr none (fun _ => n) (fun _ => 0) [.nat .u64 fun _ => ks] true]) rfl ?_ rfl ?_ ⟨none, none, 0, rfl, rfl⟩
   ·have hks : ks = [] := List.eq_nil_of_length_eq_zero (hn.trans hq)
    subst hks
    subst hq
    cbv
    (repeat' first | with_reducible rfl | exact (show Ch.base _ = _ from rfl) | ((try simp only [toI, inI, List.length_nil] at *); omega) | exact trivial | refine ⟨?_, ?_⟩ | refine ⟨?_⟩ | intro _)
    rfl
   ·subst hq
    cbv
    exact rf
  | some q =>
   obtain ⟨q1, q2, q3, j⟩ := q
   have hq : j = n ∧ 1 ≤ n := hq
   obtain ⟨rfl, hk1⟩ := hq
   refine ⟨rfl, ?_⟩
   cbv
   rw [List.take_of_length_le (Nat.le_of_eq hn)]
   refine VC.mk (by omega) ?_
   cbv
   refine VC.mk rf ?_
   cbv
   rw [hD]
   refine Cl.den (v' := .tup [.sl 6 (fun _ => q1) (fun _ => 0) (fun _ => j) (fun _ => q3), .tt]) ?_ (by simp [SV.den, SV.denL, hmod])
   refine Cl.by (v' := .tup [.sl 0 (fun _ => q1) (fun _ => 0) (fun _ => j) (fun _ => q3), .tt]) [.one 6] 0 hb rfl rfl (nodup_of rfl) (hp' := [.arr q2 (fun _ => j) (fun _ => q3) [.nat .u64 fun _ => ks] true]) rfl ?_ rfl ?_ ⟨q1, q2, q3, rfl, rfl⟩
   ·cbv
    exact rf
   ·cbv
    exact rf
end Go.Proofs.YtfoffehokhkohaaGreat
set_option maxRecDepth 20000
namespace Go.Proofs.YtfoffehokhkohaaGreat
open Go
theorem getD_lt {l : List Nat} (hs : l.Pairwise (· < ·)) {p q : Nat} (h1 : p < q) (h2 : q < l.length) : l.getD p 0 < l.getD q 0 := by
 rw [List.getD_eq_getElem?_getD, List.getD_eq_getElem?_getD, List.getElem?_eq_getElem (by omega), List.getElem?_eq_getElem (by omega)]
 exact List.pairwise_iff_getElem.1 hs p q (by omega) (by omega) h1
set_option maxHeartbeats 1000000 in
theorem parse_kids (tag n e0 : Nat) (a0 ad0 : Option Addr) (ks ds : List Nat) (hk : ks.length = n) (hd : ds.length = n) (hn : n ≤ 1000000) (hkl : ∀ k ∈ ks, k < 18446744073709551616) (hs : ks.Pairwise (· < ·)) (ht : tag = 3 ∧ 2 ≤ n ∨ tag = 5 ∧ 1 ≤ n) :
  FnSpec Tryz.prog 139 [.arr ad0 (fun _ => n) (fun _ => e0) [.nat .u32 fun _ => ds] true] [.agg [.int .u8 fun _ => toI tag, .sl 0 (fun _ => a0) (fun _ => 0) (fun _ => n) (fun _ => e0), .str fun _ => ks.flatMap (leB · 8)]]
   (fun v hp => ∃ (a ad : Option Addr) (e : Nat), v = .tup [.agg [.int .u8 fun _ => toI tag, .sl 1 (fun _ => a) (fun _ => 0) (fun _ => n) (fun _ => e), .sl 2 (fun _ => none) (fun _ => 0) (fun _ => 0) (fun _ => 0), .sl 0 (fun _ => a0) (fun _ => 0) (fun _ => n) (fun _ => e0)], .int .i64 fun _ => 0] ∧
    hp = [.arr ad0 (fun _ => n) (fun _ => e0) [.nat .u32 fun _ => ds] true, .arr ad (fun _ => n) (fun _ => e) [.nat .u64 fun _ => ks] true, .arr none (fun _ => 0) (fun _ => 0) [.nat .u64 fun _ => []] true]) := by
 have hw := tree_words ks n hk hn hkl
 have hlt := fun p q h1 h2 => getD_lt hs (p := p) (q := q) h1 h2
 rw [hk] at hlt
 revert hw
 generalize ks.flatMap (leB · 8) = d
 intro hw
 refine spec_cl mixed F139 rfl rfl rfl (fun Γ hΓ hb => ?_)
 cbv
 intro b1
 cbv
 intro b2
 cbv
 refine cP hΓ (hw) [] ?_
 rintro x hp' ⟨a, ad, e, rfl, rfl⟩
 refine ⟨rfl, ?_⟩
 cbv
 have fin : ∃ lm, lm ≤ n ∧ (tag = 3 ∧ lm = 2 ∨ tag = 5 ∧ lm = 1) := by rcases ht with ⟨h1, h2⟩ | ⟨h1, h2⟩; exact ⟨2, h2, .inl ⟨h1, rfl⟩⟩; exact ⟨1, h2, .inr ⟨h1, rfl⟩⟩
 obtain ⟨lm, hlm, hlt2⟩ := fin
 rcases hlt2 with ⟨h1, h2⟩ | ⟨h1, h2⟩
 ·refine .no (eqF om) ?_
  cbv
  refine .yes (eqT om) ?_
  cbv
  refine loopJ (fun (i : Nat) => 1 ≤ i ∧ i ≤ n) (fun i => ⟨116, [(2, .bp 1 0), (5, .bl fun _ => true), (6, .int .i64 fun _ => toI lm), (8, .int .i64 fun _ => toI i)],
   [.arr ad0 (fun _ => n) (fun _ => e0) [.nat .u32 fun _ => ds] true, .box b2 90 [.int .u8 fun _ => toI tag, .sl 2 (fun _ => a) (fun _ => 0) (fun _ => n) (fun _ => e), .nils, .sl 0 (fun _ => a0) (fun _ => 0) (fun _ => n) (fun _ => e0)] true, .arr ad (fun _ => n) (fun _ => e) [.nat .u64 fun _ => ks] true], []⟩)
   (fun i => n - i) 1 ⟨Nat.le_refl _, by omega⟩ (sub2 [0, 2, 3] 1 hb rfl rfl rfl rfl rfl rfl rfl rfl ?_) ?_
  ·cbv
   (repeat' first | with_reducible rfl | exact (show Ch.base _ = _ from rfl) | ((try simp only [toI, inI, List.length_nil] at *); omega) | exact trivial | refine ⟨?_, ?_⟩ | refine ⟨?_⟩ | intro _)
   exact beq_self_eq_true _
  rintro i ⟨hi1, hi⟩
  cbv
  refine ⟨fun hc => ?_, fun hc => ?_⟩
  ·replace hc := toI_lt hc
   cbv
   refine .yes rfl ?_
   cbv
   repeat ((first | refine VC.mk rf ?_ | refine ADD.mk rf ?_); cbv)
   have hlti := hlt (i - 1) i (by omega) hc
   have hd1 : decide (toI (ks.getD (0 + (toI i - 1).toNat) 0) < toI (ks.getD (0 + (toI i).toNat) 0)) = true := by
    rw [show 0 + (toI i - 1).toNat = i - 1 by exact om, show 0 + (toI i).toNat = i by exact om]
    exact decide_eq_true om
   refine ⟨i + 1, ⟨by omega, by omega⟩, by show n - (i + 1) < n - i; omega, sub2 [0, 1, 2] 1 hb rfl rfl rfl rfl rfl rfl rfl rfl ?_⟩
   cbv
   exact rf
  ·cbv
   refine .no rfl ?_
   cbv
   refine .no (decide_eq_false om) ?_
   cbv
   refine Cl.nil [.nat .u64] rfl ?_
   cbv
   refine Cl.by (v' := .tup [.agg [.int .u8 fun _ => toI tag, .sl 1 (fun _ => a) (fun _ => 0) (fun _ => n) (fun _ => e), .sl 2 (fun _ => none) (fun _ => 0) (fun _ => 0) (fun _ => 0), .sl 0 (fun _ => a0) (fun _ => 0) (fun _ => n) (fun _ => e0)], .int .i64 fun _ => 0])
    (hp' := [.arr ad0 (fun _ => n) (fun _ => e0) [.nat .u32 fun _ => ds] true, .arr ad (fun _ => n) (fun _ => e) [.nat .u64 fun _ => ks] true, .arr none (fun _ => 0) (fun _ => 0) [.nat .u64 fun _ => []] true]) [.one 0, .one 2, .one 3] 1 hb rfl rfl (nodup_of rfl) rfl ?_ rfl ?_ ⟨a, ad, e, rfl, rfl⟩
   ·cbv
    (repeat' first | with_reducible rfl | exact (show Ch.base _ = _ from rfl) | ((try simp only [toI, inI, List.length_nil] at *); omega) | exact trivial | refine ⟨?_, ?_⟩ | refine ⟨?_⟩ | intro _)
    rfl
   ·cbv
    exact rf
 ·refine .no (eqF om) ?_
  cbv
  refine .no (eqF om) ?_
  cbv
  refine .yes (eqT om) ?_
  cbv
  refine loopJ (fun (i : Nat) => 1 ≤ i ∧ i ≤ n) (fun i => ⟨116, [(2, .bp 1 0), (5, .bl fun _ => true), (6, .int .i64 fun _ => toI lm), (8, .int .i64 fun _ => toI i)],
   [.arr ad0 (fun _ => n) (fun _ => e0) [.nat .u32 fun _ => ds] true, .box b2 90 [.int .u8 fun _ => toI tag, .sl 2 (fun _ => a) (fun _ => 0) (fun _ => n) (fun _ => e), .nils, .sl 0 (fun _ => a0) (fun _ => 0) (fun _ => n) (fun _ => e0)] true, .arr ad (fun _ => n) (fun _ => e) [.nat .u64 fun _ => ks] true], []⟩)
   (fun i => n - i) 1 ⟨Nat.le_refl _, by omega⟩ (sub2 [0, 2, 3] 1 hb rfl rfl rfl rfl rfl rfl rfl rfl ?_) ?_
  ·cbv
   (repeat' first | with_reducible rfl | exact (show Ch.base _ = _ from rfl) | ((try simp only [toI, inI, List.length_nil] at *); omega) | exact trivial | refine ⟨?_, ?_⟩ | refine ⟨?_⟩ | intro _)
   exact beq_self_eq_true _
  rintro i ⟨hi1, hi⟩
  cbv
  refine ⟨fun hc => ?_, fun hc => ?_⟩
  ·replace hc := toI_lt hc
   cbv
   refine .yes rfl ?_
   cbv
   repeat ((first | refine VC.mk rf ?_ | refine ADD.mk rf ?_); cbv)
   have hlti := hlt (i - 1) i (by omega) hc
   have hd1 : decide (toI (ks.getD (0 + (toI i - 1).toNat) 0) < toI (ks.getD (0 + (toI i).toNat) 0)) = true := by
    rw [show 0 + (toI i - 1).toNat = i - 1 by exact om, show 0 + (toI i).toNat = i by exact om]
    exact decide_eq_true om
   refine ⟨i + 1, ⟨by omega, by omega⟩, by show n - (i + 1) < n - i; omega, sub2 [0, 1, 2] 1 hb rfl rfl rfl rfl rfl rfl rfl rfl ?_⟩
   cbv
   exact rf
  ·cbv
   refine .no rfl ?_
   cbv
   refine .no (decide_eq_false om) ?_
   cbv
   refine Cl.nil [.nat .u64] rfl ?_
   cbv
   refine Cl.by (v' := .tup [.agg [.int .u8 fun _ => toI tag, .sl 1 (fun _ => a) (fun _ => 0) (fun _ => n) (fun _ => e), .sl 2 (fun _ => none) (fun _ => 0) (fun _ => 0) (fun _ => 0), .sl 0 (fun _ => a0) (fun _ => 0) (fun _ => n) (fun _ => e0)], .int .i64 fun _ => 0])
    (hp' := [.arr ad0 (fun _ => n) (fun _ => e0) [.nat .u32 fun _ => ds] true, .arr ad (fun _ => n) (fun _ => e) [.nat .u64 fun _ => ks] true, .arr none (fun _ => 0) (fun _ => 0) [.nat .u64 fun _ => []] true]) [.one 0, .one 2, .one 3] 1 hb rfl rfl (nodup_of rfl) rfl ?_ rfl ?_ ⟨a, ad, e, rfl, rfl⟩
   ·cbv
    (repeat' first | with_reducible rfl | exact (show Ch.base _ = _ from rfl) | ((try simp only [toI, inI, List.length_nil] at *); omega) | exact trivial | refine ⟨?_, ?_⟩ | refine ⟨?_⟩ | intro _)
    rfl
   ·cbv
    exact rf
end Go.Proofs.YtfoffehokhkohaaGreat
set_option maxRecDepth 20000
namespace Go.Proofs.YtfoffehokhkohaaGreat
open Go
def il (l : Ent) : List Nat := l.flatMap fun e => [e.1, e.2]
theorem il_length (l : Ent) : (il l).length = 2 * l.length := by
 induction l with
 | nil => rfl
 | cons e l ih =>
  have : il (e :: l) = e.1 :: e.2 :: il l := rfl
  rw [this]; simp only [List.length_cons, ih]; omega
theorem il_get : ∀ (l : Ent) (k : Nat), (il l).getD (2 * k) 0 = (l.map (·.1)).getD k 0 ∧ (il l).getD (2 * k + 1) 0 = (l.map (·.2)).getD k 0
 | [], k => by simp [il]
 | e :: l, 0 => by simp [il]
 | e :: l, k + 1 => by
  have h : il (e :: l) = e.1 :: e.2 :: il l := rfl
  have := il_get l k
  rw [h, show 2 * (k + 1) + 1 = 2 * k + 1 + 1 + 1 by omega, show 2 * (k + 1) = 2 * k + 1 + 1 by omega, List.getD_cons_succ, List.getD_cons_succ, List.getD_cons_succ, List.getD_cons_succ, List.map_cons, List.map_cons, List.getD_cons_succ, List.getD_cons_succ]
  exact this
theorem il_bytes (l : Ent) : ((l.map (·.1)).zip (l.map (·.2))).flatMap (fun e => leB e.1 8 ++ leB e.2 8) = (il l).flatMap (leB · 8) := by
 induction l with
 | nil => rfl
 | cons e l ih =>
  have h : il (e :: l) = e.1 :: e.2 :: il l := rfl
  rw [h, List.map_cons, List.map_cons, List.zip_cons_cons, List.flatMap_cons, ih, List.flatMap_cons, List.flatMap_cons, List.append_assoc]
set_option maxHeartbeats 1000000 in
theorem parse_leaf (n e0 : Nat) (a0 ad0 : Option Addr) (l : Ent) (hl : l.length = n) (hn1 : 1 ≤ n) (hn : n ≤ 100000) (hkl : ∀ e ∈ l, e.1 < 18446744073709551616 ∧ e.2 < 18446744073709551616) (hs : (l.map (·.1)).Pairwise (· < ·)) :
  FnSpec Tryz.prog 139 [.arr ad0 (fun _ => 0) (fun _ => e0) [.nat .u32 fun _ => []] true] [.agg [.int .u8 fun _ => toI 4, .sl 0 (fun _ => a0) (fun _ => 0) (fun _ => 0) (fun _ => e0), .str fun _ => (il l).flatMap (leB · 8)]]
   (fun v hp => ∃ (a ad a2 ad2 : Option Addr) (e e2 : Nat), v = .tup [.agg [.int .u8 fun _ => toI 4, .sl 1 (fun _ => a) (fun _ => 0) (fun _ => n) (fun _ => e), .sl 2 (fun _ => a2) (fun _ => 0) (fun _ => n) (fun _ => e2), .sl 0 (fun _ => a0) (fun _ => 0) (fun _ => 0) (fun _ => e0)], .int .i64 fun _ => 0] ∧
    hp = [.arr ad0 (fun _ => 0) (fun _ => e0) [.nat .u32 fun _ => []] true, .arr ad (fun _ => n) (fun _ => e) [.nat .u64 fun _ => l.map (·.1)] true, .arr ad2 (fun _ => n) (fun _ => e2) [.nat .u64 fun _ => l.map (·.2)] true]) := by
 obtain ⟨m, hm⟩ : ∃ m, m = 2 * n := ⟨_, rfl⟩
 have him : (il l).length = m := by rw [il_length]; omega
 have hw := tree_words (il l) m him (by omega) (fun k hk => by
  obtain ⟨e, he, hk⟩ := List.mem_flatMap.1 hk
  have := hkl e he
  rcases List.mem_cons.1 hk with rfl | hk
  ·exact this.1
  ·rw [List.mem_singleton] at hk; subst hk; exact this.2)
 have hg := il_get l
 obtain ⟨ks, hks⟩ : ∃ ks, ks = l.map (·.1) := ⟨_, rfl⟩
 obtain ⟨vs, hvs⟩ : ∃ vs, vs = l.map (·.2) := ⟨_, rfl⟩
 have hkn : ks.length = n := by rw [hks, List.length_map, hl]
 have hvn : vs.length = n := by rw [hvs, List.length_map, hl]
 rw [← hks] at hs
 rw [← hks, ← hvs] at hg ⊢
 have hlt := fun p q h1 h2 => getD_lt hs (p := p) (q := q) h1 h2
 rw [hkn] at hlt
 revert hw him hg
 generalize (il l).flatMap (leB · 8) = d
 generalize il l = L
 intro him hw hg
 have htk : ∀ (x : List Nat), x.length = n → ∀ k, k < n → x.take (k + 1) = x.take k ++ [x.getD k 0] := fun x hx k hk => by
  rw [List.take_add_one, List.getElem?_eq_getElem (by omega), List.getD_eq_getElem?_getD, List.getElem?_eq_getElem (by omega)]; rfl
 have hT0 : ∀ (x : List Nat), x.length = n → ∀ k, k ≤ n → (x.take k).length = k := fun x hx k hk => by rw [List.length_take]; omega
 have hNn : (m + 2 - 1) / 2 = n := by omega
 refine spec_cl mixed F139 rfl rfl rfl (fun Γ hΓ hb => ?_)
 cbv
 intro b1
 cbv
 intro b2
 cbv
 refine cP hΓ (hw) [] ?_
 rintro x hp' ⟨a, ad, e, rfl, rfl⟩
 refine ⟨rfl, ?_⟩
 cbv
 refine .yes rfl ?_
 cbv
 refine cP hΓ (chunk_u640 ad a m e 0 m e 2 L (by omega)) [3] ?_
 rintro x hp' ⟨b3, b4, rfl, rfl⟩
 refine ⟨rfl, ?_⟩
 cbv
 have his := chunk_u64 ad a m e 0 m e 2 b3 b4 39 3 L him (by omega) (by omega) (by omega) (by omega)
 rw [hNn] at his
 refine ⟨_, fun _ _ h => h, ?_⟩
 cbv
 refine RangeP0.to ?_
 refine ⟨[4, 5, 3, 7, 2, 0], [.box b3 39 [.sl 2 (fun _ => a) (fun _ => 0) (fun _ => m) (fun _ => e)] true, .box b4 3 [.int .i64 fun _ => toI 2] true, .arr ad (fun _ => m) (fun _ => e) [.nat .u64 fun _ => L] false],
  [.box b2 90 [.int .u8 fun _ => toI 4, .nils, .nils, .sl 5 (fun _ => a0) (fun _ => 0) (fun _ => 0) (fun _ => e0)] true, .arr ad0 (fun _ => 0) (fun _ => e0) [.nat .u32 fun _ => []] true], [(2, .bp 4 0)], [], [.bp 0 0, .bp 1 0],
  by simp, rfl, rfl, ⟨rfl, trivial⟩, rfl, by simp, fun rd rr => ⟨⟨_, rfl, .inl rfl⟩, ⟨_, rfl, .inl rfl⟩, ⟨_, rfl, .inr ⟨rfl, rfl⟩⟩, ⟨_, rfl, .inl rfl⟩, ⟨_, rfl, .inl rfl⟩, ⟨_, rfl, .inl rfl⟩, trivial⟩, ?_⟩
 refine ⟨Option (Option Addr × Option Addr × Nat × Option Addr × Option Addr × Nat × Nat), Empty, fun k q => match q with | none => k = 0 | some (_, _, _, _, _, _, j) => j = k ∧ 1 ≤ k, fun q => match q with
   | none => [.box b2 90 [.int .u8 fun _ => toI 4, .nils, .nils, .sl 5 (fun _ => a0) (fun _ => 0) (fun _ => 0) (fun _ => e0)] true, .arr ad0 (fun _ => 0) (fun _ => e0) [.nat .u32 fun _ => []] true]
   | some (q1, q2, q3, p1, p2, p3, j) => [.box b2 90 [.int .u8 fun _ => toI 4, .sl 6 (fun _ => q1) (fun _ => 0) (fun _ => j) (fun _ => q3), .sl 7 (fun _ => p1) (fun _ => 0) (fun _ => j) (fun _ => p3), .sl 5 (fun _ => a0) (fun _ => 0) (fun _ => 0) (fun _ => e0)] true,
     .arr ad0 (fun _ => 0) (fun _ => e0) [.nat .u32 fun _ => []] true, .arr q2 (fun _ => j) (fun _ => q3) [.nat .u64 fun _ => ks.take j] true, .arr p2 (fun _ => j) (fun _ => p3) [.nat .u64 fun _ => vs.take j] true],
  fun e => e.elim, fun e => e.elim, _, none, hΓ ▸ his, ?_, rfl, rfl, ?_, fun e => e.elim, ?_, ?_, fun e => e.elim⟩
 ·intro xs hx
  obtain ⟨k, _, rfl⟩ := List.mem_map.1 hx
  rfl
 ·rintro (_ | ⟨q1, q2, q3, p1, p2, p3, j⟩)
  ·exact ⟨rfl, rfl, [], rfl⟩
  ·exact ⟨rfl, rfl, _, rfl⟩
 ·rintro k q xs Γ' r1 r2 hk' hq hΓ' hb'
  have hΓ' : Γ'.P = Tryz.prog := hΓ'.trans hΓ
  have hkl : k < n := by
   have := (List.getElem?_eq_some_iff.1 hk').1
   simpa using this
  have hxs : xs = chk 0 m 2 k := by
   rw [List.getElem?_map, List.getElem?_range hkl] at hk'
   exact (Option.some.inj hk').symm
  have hch : chk 0 m 2 k = [.sl 2 (fun _ => none) (fun _ => 2 * k) (fun _ => 2) (fun _ => 0)] := by
   unfold chk
   rw [show 0 + k * 2 = 2 * k by omega, show min 2 (m - k * 2) = 2 by omega]
  rw [hch] at hxs
  subst hxs
  have hnk := htk ks hkn k hkl
  have hnv := htk vs hvn k hkl
  have hl1 := hT0 ks hkn k (by omega)
  have hl2 := hT0 vs hvn k (by omega)
  obtain ⟨hgk, hgv⟩ := hg k
  rw [← hgk] at hnk
  rw [← hgv] at hnv
  have e1 : L.getD (2 * k + (0 : Int).toNat) 0 = L.getD (2 * k) 0 := rfl
  have e2 : L.getD (2 * k + (toI 2 - 1).toNat) 0 = L.getD (2 * k + 1) 0 := rfl
  revert hnk hnv hl1 hl2 e1 e2
  generalize hx : L.getD (2 * k) 0 = x
  generalize hy : L.getD (2 * k + 1) 0 = y
  generalize hk0 : ks.take k = k0
  generalize hk2 : ks.take (k + 1) = k1
  generalize hv0 : vs.take k = v0
  generalize hv2 : vs.take (k + 1) = v1
  intro hnk hnv hl1 hl2 e1 e2
  cases q with
  | none =>
   have hq : k = 0 := hq
   cbv
   refine ⟨⟨rfl⟩, ?_⟩
   cbv
   refine VC.mk rf ?_
   cbv
   refine VC.mk rf ?_
   cbv
   rw [e1]
   refine VC.mk ⟨rf, trivial⟩ fun b5 => ?_
   cbv
   refine VC.mk rf ?_
   cbv
   refine VC.mk rf fun a6 x6 => ?_
   cbv
   repeat ((first | refine VC.mk rf ?_ | refine ADD.mk rf ?_); cbv)
   intro b7
   cbv
   repeat ((first | refine VC.mk rf ?_ | refine ADD.mk rf ?_); cbv)
   intro a8 x8
   cbv
   refine RoundTo.by [.box b2 90 [.int .u8 fun _ => toI 4, .sl 6 (fun _ => a6) (fun _ => 0) (fun _ => k + 1) (fun _ => x6), .sl 7 (fun _ => a8) (fun _ => 0) (fun _ => k + 1) (fun _ => x8), .sl 5 (fun _ => a0) (fun _ => 0) (fun _ => 0) (fun _ => e0)] true,
     .arr ad0 (fun _ => 0) (fun _ => e0) [.nat .u32 fun _ => []] true, .arr a6 (fun _ => k + 1) (fun _ => x6) [.nat .u64 fun _ => k1] true, .arr a8 (fun _ => k + 1) (fun _ => x8) [.nat .u64 fun _ => v1] true] [.one 0, .one 1, .one 2, .one 3, .one 4, .one 5, .one 7, .one 9] 4 hb' rfl rfl (nodup_of rfl) rfl ?_
     ⟨some (a6, a6, x6, a8, a8, x8, k + 1), ⟨rfl, by omega⟩, by show _ = [_, _, Ch.arr a6 (fun _ => k + 1) (fun _ => x6) [.nat .u64 fun _ => ks.take (k + 1)] true, Ch.arr a8 (fun _ => k + 1) (fun _ => x8) [.nat .u64 fun _ => vs.take (k + 1)] true]; rw [hk2, hv2]⟩
   have hk00 : k0 = [] := List.eq_nil_of_length_eq_zero (hl1.trans hq)
   have hv00 : v0 = [] := List.eq_nil_of_length_eq_zero (hl2.trans hq)
   rw [hk00] at hnk
   rw [hv00] at hnv
   subst hq
   cbv
   (repeat' first | with_reducible rfl | exact (show Ch.base _ = _ from rfl) | ((try simp only [toI, inI, List.length_nil] at *); omega) | exact trivial | refine ⟨?_, ?_⟩ | refine ⟨?_⟩ | intro _)
   ·rw [hnk, toI_toNat]
    rfl
   ·rw [hnv, e2, toI_toNat]
    rfl
  | some q =>
   obtain ⟨q1, q2, q3, p1, p2, p3, j⟩ := q
   obtain ⟨rfl, hk1⟩ := hq
   cbv
   rw [hk0, hv0]
   refine ⟨⟨rfl⟩, ?_⟩
   refine VC.mk rf ?_
   cbv
   refine VC.mk rf ?_
   cbv
   rw [e1]
   refine VC.mk ⟨rf, trivial⟩ fun b5 => ?_
   cbv
   refine VC.mk rf ?_
   cbv
   refine .any (VC.mk rf fun a6 a7 x6 hx6 => ?_)
   cbv
   repeat ((first | refine VC.mk rf ?_ | refine ADD.mk rf ?_); cbv)
   intro b7
   cbv
   repeat ((first | refine VC.mk rf ?_ | refine ADD.mk rf ?_); cbv)
   refine .any (VC.mk rf fun a8 a9 x8 hx8 => ?_)
   cbv
   refine RoundTo.by [.box b2 90 [.int .u8 fun _ => toI 4, .sl 6 (fun _ => a7) (fun _ => 0) (fun _ => j + 1) (fun _ => x6), .sl 7 (fun _ => a9) (fun _ => 0) (fun _ => j + 1) (fun _ => x8), .sl 5 (fun _ => a0) (fun _ => 0) (fun _ => 0) (fun _ => e0)] true,
     .arr ad0 (fun _ => 0) (fun _ => e0) [.nat .u32 fun _ => []] true, .arr a6 (fun _ => j + 1) (fun _ => x6) [.nat .u64 fun _ => k1] true, .arr a8 (fun _ => j + 1) (fun _ => x8) [.nat .u64 fun _ => v1] true] [.one 0, .one 1, .one 2, .one 3, .one 4, .one 5, .one 9, .one 11] 4 hb' rfl rfl (nodup_of rfl) rfl ?_
     ⟨some (a7, a6, x6, a9, a8, x8, j + 1), ⟨rfl, by omega⟩, by show _ = [_, _, Ch.arr a6 (fun _ => j + 1) (fun _ => x6) [.nat .u64 fun _ => ks.take (j + 1)] true, Ch.arr a8 (fun _ => j + 1) (fun _ => x8) [.nat .u64 fun _ => vs.take (j + 1)] true]; rw [hk2, hv2]⟩
   cbv
   (repeat' first | with_reducible rfl | exact (show Ch.base _ = _ from rfl) | ((try simp only [toI, inI, List.length_nil] at *); omega) | exact trivial | refine ⟨?_, ?_⟩ | refine ⟨?_⟩ | intro _)
   ·rw [hnk, toI_toNat, List.drop_zero, List.take_of_length_le (Nat.le_of_eq hl1)]
    rfl
   ·rw [hnv, e2, toI_toNat, List.drop_zero, List.take_of_length_le (Nat.le_of_eq hl2)]
    rfl
 ·rintro q hq dd rr r'
  rw [List.length_map, List.length_range] at hq
  cases q with
  | none =>
   have hq : n = 0 := hq
   omega
  | some q =>
   obtain ⟨q1, q2, q3, p1, p2, p3, j⟩ := q
   have hq : j = n ∧ 1 ≤ n := hq
   obtain ⟨rfl, hk1⟩ := hq
   refine ⟨rfl, ?_⟩
   cbv
   rw [List.take_of_length_le (Nat.le_of_eq hkn), List.take_of_length_le (Nat.le_of_eq hvn)]
   have hmod : (toI m).tmod 2 = 0 := by
    simp only [toI]
    rw [Int.tmod_eq_emod_of_nonneg (by omega)]
    omega
   refine VC.mk (by omega) ?_
   cbv
   repeat ((first | refine VC.mk rf ?_ | refine ADD.mk rf ?_); cbv)
   refine .yes (eqT hmod) ?_
   cbv
   refine loopJ (fun (i : Nat) => 1 ≤ i ∧ i ≤ j) (fun i => ⟨116, [(2, .bp 1 0), (5, .bl fun _ => true), (6, .int .i64 fun _ => toI 1), (8, .int .i64 fun _ => toI i)],
    [.arr ad0 (fun _ => 0) (fun _ => e0) [.nat .u32 fun _ => []] true, .box b2 90 [.int .u8 fun _ => toI 4, .sl 2 (fun _ => q1) (fun _ => 0) (fun _ => j) (fun _ => q3), .sl 3 (fun _ => p1) (fun _ => 0) (fun _ => j) (fun _ => p3), .sl 0 (fun _ => a0) (fun _ => 0) (fun _ => 0) (fun _ => e0)] true,
     .arr q2 (fun _ => j) (fun _ => q3) [.nat .u64 fun _ => ks] true, .arr p2 (fun _ => j) (fun _ => p3) [.nat .u64 fun _ => vs] true, .res fun _ => DefR dd], [(.yield dd, [.bp 4 0], [])]⟩)
    (fun i => j - i) 1 ⟨Nat.le_refl _, by omega⟩ (subD [0, 2, 8, 9, 6] 1 hb rfl rfl rfl rfl rfl rfl rfl rfl ?_) ?_
   ·cbv
    (repeat' first | with_reducible rfl | exact (show Ch.base _ = _ from rfl) | ((try simp only [toI, inI, List.length_nil] at *); omega) | exact trivial | refine ⟨?_, ?_⟩ | refine ⟨?_⟩ | intro _)
    rfl
   rintro i ⟨hi1, hi⟩
   cbv
   refine ⟨fun hc => ?_, fun hc => ?_⟩
   ·replace hc := toI_lt hc
    cbv
    refine .yes rfl ?_
    cbv
    repeat ((first | refine VC.mk rf ?_ | refine ADD.mk rf ?_); cbv)
    have hlti := hlt (i - 1) i (by omega) hc
    have hd1 : decide (toI (ks.getD (0 + (toI i - 1).toNat) 0) < toI (ks.getD (0 + (toI i).toNat) 0)) = true := by
     rw [show 0 + (toI i - 1).toNat = i - 1 by exact om, show 0 + (toI i).toNat = i by exact om]
     exact decide_eq_true om
    refine ⟨i + 1, ⟨by omega, by omega⟩, by show j - (i + 1) < j - i; omega, subD [0, 1, 2, 3, 4] 1 hb rfl rfl rfl rfl rfl rfl rfl rfl ?_⟩
    cbv
    exact rf
   ·cbv
    refine .no rfl ?_
    cbv
    refine .no (decide_eq_false om) ?_
    cbv
    refine ⟨rfl, ?_⟩
    cbv
    refine Cl.by (v' := .tup [.agg [.int .u8 fun _ => toI 4, .sl 1 (fun _ => q1) (fun _ => 0) (fun _ => j) (fun _ => q3), .sl 2 (fun _ => p1) (fun _ => 0) (fun _ => j) (fun _ => p3), .sl 0 (fun _ => a0) (fun _ => 0) (fun _ => 0) (fun _ => e0)], .int .i64 fun _ => 0])
     (hp' := [.arr ad0 (fun _ => 0) (fun _ => e0) [.nat .u32 fun _ => []] true, .arr q2 (fun _ => j) (fun _ => q3) [.nat .u64 fun _ => ks] true, .arr p2 (fun _ => j) (fun _ => p3) [.nat .u64 fun _ => vs] true]) [.one 0, .one 2, .one 3] 1 hb rfl rfl (nodup_of rfl) rfl ?_ rfl ?_ ⟨q1, q2, p1, p2, q3, p3, rfl, rfl⟩
    ·cbv
     exact rf
    ·cbv
     exact rf
end Go.Proofs.YtfoffehokhkohaaGreat
set_option maxRecDepth 20000
namespace Go.Proofs.YtfoffehokhkohaaGreat
open Go
variable [VPg]
structure Sq where
 a : Option Addr
 ad : Option Addr
 e : Nat
structure NQ where
 k : Sq
 v : Sq
 d : Sq
def ndV (hk hv hd : Nat) (q : NQ) (x : Nd) : SV := .agg [.int .u8 fun _ => toI x.tag, .sl hk (fun _ => q.k.a) (fun _ => 0) (fun _ => x.keys.length) (fun _ => q.k.e), .sl hv (fun _ => q.v.a) (fun _ => 0) (fun _ => x.vals.length) (fun _ => q.v.e), .sl hd (fun _ => q.d.a) (fun _ => 0) (fun _ => x.kids.length) (fun _ => q.d.e)]
def ndL (q : NQ) (x : Nd) (ex : Bool) : List Ch := [.arr q.d.ad (fun _ => x.kids.length) (fun _ => q.d.e) [.nat .u32 fun _ => x.kids] ex, .arr q.k.ad (fun _ => x.keys.length) (fun _ => q.k.e) [.nat .u64 fun _ => x.keys] ex, .arr q.v.ad (fun _ => x.vals.length) (fun _ => q.v.e) [.nat .u64 fun _ => x.vals] ex]
structure NdOk (x : Nd) : Prop where
 srt : x.keys.Pairwise (· < ·)
 lt : ∀ k ∈ x.keys, k < 18446744073709551616
 vlt : ∀ k ∈ x.vals, k < 18446744073709551616
 len : x.keys.length ≤ 100000
 kind : x.tag = 4 ∧ x.vals.length = x.keys.length ∧ x.kids = [] ∨ (x.tag = 3 ∨ x.tag = 5) ∧ x.kids.length = x.keys.length ∧ x.vals = []
theorem tree_parse (x : Nd) (hx : NdOk x) (hl : (if x.tag = 3 then 2 else 1) ≤ x.keys.length) (qd : Sq) :
  FnSpec Tryz.prog 139 [.arr qd.ad (fun _ => x.kids.length) (fun _ => qd.e) [.nat .u32 fun _ => x.kids] true] [.agg [.int .u8 fun _ => toI x.tag, .sl 0 (fun _ => qd.a) (fun _ => 0) (fun _ => x.kids.length) (fun _ => qd.e), .str fun _ => x.data]]
   (fun v hp => ∃ q : NQ, v = .tup [ndV 1 2 0 q x, .int .i64 fun _ => 0] ∧ hp = ndL q x true) := by
 obtain ⟨tag, keys, vals, kids⟩ := x
 have h1 := hx.srt
 have h2 := hx.lt
 have h3 := hx.vlt
 have h4 := hx.len
 rcases hx.kind with ⟨rfl, h5, rfl⟩ | ⟨ht, h5, rfl⟩
 ·have hl : 1 ≤ keys.length := hl
  obtain ⟨l, hlk, hlv⟩ : ∃ l : Ent, l.map (·.1) = keys ∧ l.map (·.2) = vals := ⟨keys.zip vals, List.map_fst_zip (Nat.le_of_eq h5.symm), List.map_snd_zip (Nat.le_of_eq h5)⟩
  subst hlk
  subst hlv
  have hd : Nd.data ⟨4, l.map (·.1), l.map (·.2), []⟩ = (il l).flatMap (leB · 8) := by rw [← il_bytes]; rfl
  rw [hd]
  simp only [List.length_map] at hl h4
  refine (parse_leaf l.length qd.e qd.a qd.ad l rfl hl h4 (fun e he => ⟨h2 _ (List.mem_map_of_mem he), h3 _ (List.mem_map_of_mem he)⟩) h1).mono ?_
  rintro v hp ⟨a, ad, a2, ad2, e, e2, rfl, rfl⟩
  exact ⟨⟨⟨a, ad, e⟩, ⟨a2, ad2, e2⟩, qd⟩, by simp [ndV], by simp [ndL]⟩
 ·have hd : Nd.data ⟨tag, keys, [], kids⟩ = keys.flatMap (leB · 8) := by unfold Nd.data; rw [if_neg (by show ¬ tag = 4; have : tag = 3 ∨ tag = 5 := ht; omega)]
  rw [hd]
  have h5 : kids.length = keys.length := h5
  have ht2 : tag = 3 ∧ 2 ≤ keys.length ∨ tag = 5 ∧ 1 ≤ keys.length := by
   have ht : tag = 3 ∨ tag = 5 := ht
   have hl : (if tag = 3 then 2 else 1) ≤ keys.length := hl
   rcases ht with h | h
   ·rw [if_pos h] at hl; exact .inl ⟨h, hl⟩
   ·rw [if_neg (by omega)] at hl; exact .inr ⟨h, hl⟩
  have hs := parse_kids tag keys.length qd.e qd.a qd.ad keys kids rfl h5 (by have : keys.length ≤ 100000 := h4; omega) h2 h1 ht2
  rw [← h5] at hs
  refine hs.mono ?_
  rintro v hp ⟨a, ad, e, rfl, rfl⟩
  exact ⟨⟨⟨a, ad, e⟩, ⟨none, none, 0⟩, qd⟩, by simp [ndV, h5], by simp [ndL, h5]⟩
theorem NR.ok {pg : PG} {r : Bool} {h : Nat} {x : Nd} {ls : List Ent} (H : NR pg r h x ls) (he : EntOk ls.flatten) (hl : ls.length ≤ 100000) : NdOk x := by
 obtain ⟨h1, h2⟩ := H.keysOk he
 have hk := H.keys
 have hv := H.vals
 have hd := H.kids
 have ht := H.tag
 refine ⟨h1, h2, ?_, by rw [hk, List.length_map]; exact hl, ?_⟩
 ·cases h with
  | zero =>
   obtain ⟨m, rfl, rfl, _⟩ := H
   rw [flatten_single] at he
   intro k hkm
   cases r with
   | true => cases hkm
   | false =>
    obtain ⟨e, he2, rfl⟩ := List.mem_map.1 (show k ∈ m.map (·.2) from hkm)
    exact (he.lt e he2).2
  | succ h =>
   obtain ⟨ks, rfl, _, _⟩ := H
   intro k hkm
   cases hkm
 ·rw [hk, List.length_map]
  cases h with
  | zero =>
   cases r with
   | true => exact .inr ⟨.inr ht, by simpa using hd, List.eq_nil_of_length_eq_zero (by simpa using hv)⟩
   | false => exact .inl ⟨ht, by simpa using hv, List.eq_nil_of_length_eq_zero (by simpa using hd)⟩
  | succ h => exact .inr ⟨.inl ht, by simpa using hd, List.eq_nil_of_length_eq_zero (by simpa using hv)⟩
theorem NR.least {pg : PG} {r : Bool} {h : Nat} {x : Nd} {ls : List Ent} (H : NR pg r h x ls) (hl : least h ≤ ls.length) : (if x.tag = 3 then 2 else 1) ≤ x.keys.length := by
 rw [H.keys, List.length_map, H.tag]
 unfold Go.Proofs.YtfoffehokhkohaaGreat.least at hl
 cases h with
 | zero =>
  rw [if_pos rfl] at hl ⊢
  rw [if_neg (by unfold leafTag; split <;> omega)]
  exact hl
 | succ h => simpa using hl
theorem tree_get (b db n : Nat) (σ : Sp) (pg : PG) (x : Nd) (hx : NdOk x) (hl : (if x.tag = 3 then 2 else 1) ≤ x.keys.length) (hok : SpOk σ) (hlv : live σ n = true) (hh : SpHas σ n (pg n)) (hp : pg n = x.page) :
  FnSpec Tryz.prog 90 [.res fun _ => SpaceR b db σ] [.pt fun _ => ⟨b, 0, none⟩, .int .u32 fun _ => toI n]
   (fun v hp => ∃ q : NQ, v = .tup [ndV 2 3 1 q x, .int .i64 fun _ => 0] ∧ hp = appL [.res fun _ => SpaceR b db σ] (ndL q x true)) := by
 have hg : FnSpec Tryz.prog 59 [.res fun _ => SpaceR b db σ] [.pt fun _ => ⟨b, 0, none⟩, .int .u32 fun _ => toI n]
   (fun v hp => ∃ (a ad : Option Addr) (e : Nat), v = .tup [.agg [.int .u8 fun _ => toI x.tag, .sl 1 (fun _ => a) (fun _ => 0) (fun _ => x.kids.length) (fun _ => e), .str fun _ => x.data], .int .i64 fun _ => 0] ∧
    hp = [.res fun _ => SpaceR b db σ, .arr ad (fun _ => x.kids.length) (fun _ => e) [.nat .u32 fun _ => x.kids] true]) := by
  have := spc_Get b db n σ (pg n) hok (live_asked hlv) (live_now hlv) hh
  rw [hp] at this
  exact this
 have hps := fun qd => tree_parse x hx hl qd
 revert hg hps
 generalize x.data = d
 intro hg hps
 refine spec_cl mixed F90 rfl rfl rfl (fun Γ hΓ hb => ?_)
 cbv
 intro b1
 cbv
 refine cP hΓ (hg) [0] ?_
 rintro x hp' ⟨a, ad, e, rfl, rfl⟩
 refine ⟨rfl, ?_⟩
 cbv
 intro b2
 cbv
 refine .no (neF rfl) ?_
 cbv
 refine cP hΓ (hps ⟨a, ad, e⟩) [2] ?_
 rintro x hp' ⟨q, rfl, rfl⟩
 refine ⟨rfl, ?_⟩
 cbv
 refine Cl.by (v' := .tup [ndV 2 3 1 q x, .int .i64 fun _ => 0]) (hp' := appL [.res fun _ => SpaceR b db σ] (ndL q x true)) [.one 0, .one 2, .one 4, .one 5] 1 hb rfl rfl (nodup_of rfl) rfl ?_ rfl ?_ ⟨q, rfl, rfl⟩
 ·cbv
  exact rf
 ·cbv
  exact rf
end Go.Proofs.YtfoffehokhkohaaGreat
set_option maxRecDepth 20000
namespace Go.Proofs.YtfoffehokhkohaaGreat
open Go
variable [VPg]
theorem spc_Put (b db N sp off len ext : Nat) (a ad : Option Addr) (l : List Nat) (σ : Sp) (p : Page) (pg : PG) (E : List Nat) (hI : Inv σ pg (p.kids ++ E)) (hp : PageOk σ.size σ.blocks p)
  (hl : l.length = N) (hof : off + len ≤ N) (hk : p.kids = subl l off len) (hkl : len = p.kids.length) (hfr : σ.sup.length < free σ) (hg : σ.gen + 1 < 9223372036854775808) (hpl : σ.pend.length < 800000000) :
  FnSpec Tryz.prog 16 [.res fun _ => SpaceR b db σ, .arr ad (fun _ => N) (fun _ => sp) [.nat .u32 fun _ => l] false] [.pt fun _ => ⟨b, 0, none⟩, .agg [.int .u8 fun _ => toI p.tag, .sl 1 (fun _ => a) (fun _ => off) (fun _ => len) (fun _ => ext), .str fun _ => p.data]]
   (fun v hp => ∃ (n : Nat) (σ' : Sp) (pg' : PG), v = .tup [.int .u32 fun _ => toI n, .int .i64 fun _ => 0] ∧ hp = [.res fun _ => SpaceR b db σ', .arr ad (fun _ => N) (fun _ => sp) [.nat .u32 fun _ => l] false] ∧
    Inv σ' pg' (n :: E) ∧ Step 1 σ σ' ∧ Keep pg pg' (p.kids ++ E) ∧ pg' n = p) := by
 obtain ⟨n, h1, h2, h3⟩ := hI.take (by omega)
 obtain ⟨k1, k2, k3⟩ := hI.put hp h2 h3 h1 hg hpl
 have hs := fun q => space_Put b db n N sp off len ext a ad l σ q p hI.ok hp hl hof hk hkl (fun k hk => ⟨hI.ext k (List.mem_append_left _ hk), live_now (hI.live_ext (List.mem_append_left _ hk))⟩) hfr h1 (asked_lt h2).2.1
 have fin : ∃ (n : Nat) (σ' : Sp) (pg' : PG), (∀ q, FnSpec Tryz.prog 16 (appL (spL b db σ q) [.arr ad (fun _ => N) (fun _ => sp) [.nat .u32 fun _ => l] false]) [.bp 0 0, .agg [.int .u8 fun _ => toI p.tag, .sl 5 (fun _ => a) (fun _ => off) (fun _ => len) (fun _ => ext), .str fun _ => p.data]]
   (fun v hp => v = .tup [.int .u32 fun _ => toI n, .int .i64 fun _ => 0] ∧ hp = appL (spL b db σ' q) [.arr ad (fun _ => N) (fun _ => sp) [.nat .u32 fun _ => l] false])) ∧ Inv σ' pg' (n :: E) ∧ Step 1 σ σ' ∧ Keep pg pg' (p.kids ++ E) ∧ pg' n = p :=
  ⟨n, spPut σ n p, pgPut pg n p, hs, k1, k2, k3, if_pos rfl⟩
 obtain ⟨n, σ', pg', hs, k1, k2, k3, k4⟩ := fin
 obtain ⟨tag, hta⟩ : ∃ tag, p.tag = tag := ⟨_, rfl⟩
 obtain ⟨d, hd⟩ : ∃ d, p.data = d := ⟨_, rfl⟩
 rw [hta, hd] at hs
 rw [hta, hd]
 refine spec_lift rfl rfl (fun (q : SpQ) => [.gone none 1, .arr ad (fun _ => N) (fun _ => sp) [.nat .u32 fun _ => l] false, .box b q.ty [.pt fun _ => ⟨db, 0, none⟩, .int .u64 fun _ => toI σ.gen, .int .i64 fun _ => toI σ.size, .int .i64 fun _ => toI σ.blocks, .int .u32 fun _ => toI σ.root, .sl 3 (fun _ => q.a) (fun _ => 0) (fun _ => σ.sup.length) (fun _ => q.e), .int .i64 fun _ => toI σ.slot, .pt fun _ => ⟨q.hb, 0, none⟩, .pt fun _ => ⟨q.nb, 0, none⟩, .nilp] true,
  .arr q.ad (fun _ => σ.sup.length) (fun _ => q.e) [.nat .u32 fun _ => σ.sup] true, .res fun _ => CountsR q.hb σ.size σ.blocks σ.held, .res fun _ => CountsR q.nb σ.size σ.blocks σ.now, .res fun _ => DevR db σ.size σ.blocks σ.dur σ.pend])
  (fun _ => [.bp 2 0, .agg [.int .u8 fun _ => toI tag, .sl 1 (fun _ => a) (fun _ => off) (fun _ => len) (fun _ => ext), .str fun _ => d]]) (fun q => rfl) (fun Γ w h => open_pack (k := 0) h rfl) (fun q Γ hΓ hb => ?_)
 refine cP hΓ (hs q) [2, 3, 4, 5, 6, 1] ?_
 rintro x hp' ⟨rfl, rfl⟩
 refine ⟨rfl, ?_⟩
 cbv
 refine Cl.by (v' := .tup [.int .u32 fun _ => toI n, .int .i64 fun _ => 0]) (hp' := [.res fun _ => SpaceR b db σ', .arr ad (fun _ => N) (fun _ => sp) [.nat .u32 fun _ => l] false]) [.pack 0 [2, 3, 4, 5, 6], .one 1] 2 hb rfl rfl (nodup_of rfl) rfl ⟨⟨_, _, q, rfl, rfl, rfl, rfl, ?_, rfl⟩, ?_⟩ rfl ?_ ⟨n, σ', pg', rfl, rfl, k1, k2, k3, k4⟩
 ·cbv
  exact rf
 ·cbv
  exact rf
 ·cbv
  exact rf
structure Gs where
 a : Option Addr
 off : Nat
 len : Nat
 ext : Nat
 ad : Option Addr
 N : Nat
 sp : Nat
 l : List Nat
def gsV (h : Nat) (g : Gs) : SV := .sl h (fun _ => g.a) (fun _ => g.off) (fun _ => g.len) (fun _ => g.ext)
def gsL (k : IntKind) (g : Gs) : Ch := .arr g.ad (fun _ => g.N) (fun _ => g.sp) [.nat k fun _ => g.l] false
def ng (tag : Nat) (k v d : Gs) : SV := .agg [.int .u8 fun _ => toI tag, gsV 0 k, gsV 1 v, gsV 2 d]
def ngL (k v d : Gs) : List Ch := [gsL .u64 k, gsL .u64 v, gsL .u32 d]
theorem refs_no (k v d : Gs) : FnSpec Tryz.prog 93 (ngL k v d) [ng 4 k v d] (fun x hp => x = .ff ∧ hp = ngL k v d) := by
 refine spec_cl mixed F93 rfl rfl rfl (fun Γ hΓ hb => ?_)
 cbv
 intro b
 cbv
 refine Cl.byd (v' := .ff) (hp' := ngL k v d) [.one 0, .one 1, .one 2] 3 hb rfl rfl (nodup_of rfl) rfl ?_ rfl ?_ ⟨rfl, rfl⟩
 ·cbv
  exact rf
 ·rfl
theorem refs_yes (tag : Nat) (ht : tag ≠ 4) (k v d : Gs) : FnSpec Tryz.prog 93 (ngL k v d) [ng tag k v d] (fun x hp => x = .tt ∧ hp = ngL k v d) := by
 refine spec_cl mixed F93 rfl rfl rfl (fun Γ hΓ hb => ?_)
 cbv
 intro b
 cbv
 refine Cl.byd (v' := .tt) (hp' := ngL k v d) [.one 0, .one 1, .one 2] 3 hb rfl rfl (nodup_of rfl) rfl ?_ rfl ?_ ⟨rfl, rfl⟩
 ·cbv
  exact rf
 ·have : toI tag ≠ 4 := by exact om
  simp [SV.den, SV.ren, this]
theorem inner_no (tag : Nat) (ht : tag ≠ 3) (k v d : Gs) : FnSpec Tryz.prog 91 (ngL k v d) [ng tag k v d] (fun x hp => x = .ff ∧ hp = ngL k v d) := by
 refine spec_cl mixed F91 rfl rfl rfl (fun Γ hΓ hb => ?_)
 cbv
 intro b
 cbv
 refine Cl.byd (v' := .ff) (hp' := ngL k v d) [.one 0, .one 1, .one 2] 3 hb rfl rfl (nodup_of rfl) rfl ?_ rfl ?_ ⟨rfl, rfl⟩
 ·cbv
  exact rf
 ·have : toI tag ≠ 3 := by exact om
  simp [SV.den, SV.ren, this]
theorem inner_yes (k v d : Gs) : FnSpec Tryz.prog 91 (ngL k v d) [ng 3 k v d] (fun x hp => x = .tt ∧ hp = ngL k v d) := by
 refine spec_cl mixed F91 rfl rfl rfl (fun Γ hΓ hb => ?_)
 cbv
 intro b
 cbv
 refine Cl.byd (v' := .tt) (hp' := ngL k v d) [.one 0, .one 1, .one 2] 3 hb rfl rfl (nodup_of rfl) rfl ?_ rfl ?_ ⟨rfl, rfl⟩
 ·cbv
  exact rf
 ·rfl
def cix (ks : List Nat) (key : Nat) : Nat := if isAt ks key = true then wh ks key else wh ks key - 1
theorem child_ok (tag key n kext ksp : Nat) (ka kad : Option Addr) (hkey : key < 18446744073709551616) (v d : Gs) (ks : List Nat) (hn2 : ks.length = n) (hn : n ≤ 1000000) (hs : ks.Pairwise (· < ·)) (hlt : ∀ x ∈ ks, x < 18446744073709551616) :
  FnSpec Tryz.prog 92 (ngL ⟨ka, 0, n, kext, kad, n, ksp, ks⟩ v d) [ng tag ⟨ka, 0, n, kext, kad, n, ksp, ks⟩ v d, .int .u64 fun _ => toI key] (fun x hp => x = .int .i64 (fun _ => toI (cix ks key)) ∧ hp = ngL ⟨ka, 0, n, kext, kad, n, ksp, ks⟩ v d) := by
 have hw := wh_le ks key
 have hbs := binSearch n n ksp kext key ka kad ks hn2 (by omega) hs hkey hlt
 rw [hn2] at hw
 have hcx : cix ks key = if isAt ks key = true then wh ks key else wh ks key - 1 := rfl
 revert hbs hcx hw
 generalize wh ks key = i
 generalize isAt ks key = bb
 generalize cix ks key = c
 intro hw hbs hcx
 refine spec_cl mixed F92 rfl rfl rfl (fun Γ hΓ hb => ?_)
 cbv
 intro b
 cbv
 refine cP hΓ (hbs) [0] ?_
 rintro x hp' ⟨rfl, rfl⟩
 refine ⟨rfl, ?_⟩
 cbv
 refine ⟨fun hc => ?_, fun hc => ?_⟩
 ·have hci : c = i := by rw [hcx, if_pos hc]
  cbv
  refine Cl.by (v' := .int .i64 fun _ => toI c) (hp' := ngL ⟨ka, 0, n, kext, kad, n, ksp, ks⟩ v d) [.one 0, .one 1, .one 2] 3 hb rfl rfl (nodup_of rfl) rfl ?_ rfl ⟨by rw [hci]⟩ ⟨rfl, rfl⟩
  cbv
  exact rf
 ·have hci : c = i - 1 := by rw [hcx, hc]; rfl
  cbv
  repeat ((first | refine VC.mk rf ?_ | refine ADD.mk rf ?_); cbv)
  refine Cl.by (v' := .int .i64 fun _ => toI c) (hp' := ngL ⟨ka, 0, n, kext, kad, n, ksp, ks⟩ v d) [.one 0, .one 1, .one 2] 3 hb rfl rfl (nodup_of rfl) rfl ?_ rfl ⟨?_⟩ ⟨rfl, rfl⟩
  ·cbv
   exact rf
  ·show (if (toI i - 1 : Int) > 0 then toI i - 1 else 0) = toI c
   split <;> exact om
theorem value_leaf (i : Nat) (k v d : Gs) (hi : i < v.len) (hv : v.off + v.len ≤ v.N) (hn : v.len ≤ 1000000) :
  FnSpec Tryz.prog 46 (ngL k v d) [ng 4 k v d, .int .i64 fun _ => toI i] (fun x hp => x = .int .u64 (fun _ => toI (v.l.getD (v.off + i) 0)) ∧ hp = ngL k v d) := by
 have hr := refs_no k v d
 obtain ⟨y, hy⟩ : ∃ y, v.l.getD (v.off + i) 0 = y := ⟨_, rfl⟩
 rw [hy]
 refine spec_cl mixed F46 rfl rfl rfl (fun Γ hΓ hb => ?_)
 cbv
 intro b
 cbv
 refine cP hΓ (hr) [0, 1, 2] ?_
 rintro x hp' ⟨rfl, rfl⟩
 refine ⟨rfl, ?_⟩
 cbv
 repeat ((first | refine VC.mk rf ?_ | refine ADD.mk rf ?_); cbv)
 refine Cl.by (v' := .int .u64 fun _ => toI y) (hp' := ngL k v d) [.one 0, .one 1, .one 2] 3 hb rfl rfl (nodup_of rfl) rfl ?_ rfl ⟨?_⟩ ⟨rfl, rfl⟩
 ·cbv
  exact rf
 ·show toI (v.l.getD (v.off + (toI i).toNat) 0) = toI y
  rw [toI_toNat, hy]
theorem value_kids (tag i : Nat) (ht : tag ≠ 4) (k v d : Gs) (hi : i < d.len) (hv : d.off + d.len ≤ d.N) (hn : d.len ≤ 1000000) (hx : d.l.getD (d.off + i) 0 < 4294967296) :
  FnSpec Tryz.prog 46 (ngL k v d) [ng tag k v d, .int .i64 fun _ => toI i] (fun x hp => x = .int .u64 (fun _ => toI (d.l.getD (d.off + i) 0)) ∧ hp = ngL k v d) := by
 have hr := refs_yes tag ht k v d
 obtain ⟨y, hy⟩ : ∃ y, d.l.getD (d.off + i) 0 = y := ⟨_, rfl⟩
 rw [hy] at hx ⊢
 refine spec_cl mixed F46 rfl rfl rfl (fun Γ hΓ hb => ?_)
 cbv
 intro b
 cbv
 refine cP hΓ (hr) [0, 1, 2] ?_
 rintro x hp' ⟨rfl, rfl⟩
 refine ⟨rfl, ?_⟩
 cbv
 repeat ((first | refine VC.mk rf ?_ | refine ADD.mk rf ?_); cbv)
 refine Cl.by (v' := .int .u64 fun _ => toI y) (hp' := ngL k v d) [.one 0, .one 1, .one 2] 3 hb rfl rfl (nodup_of rfl) rfl ?_ rfl ⟨?_⟩ ⟨rfl, rfl⟩
 ·cbv
  exact rf
 ·show wr .u64 (toI (d.l.getD (d.off + (toI i).toNat) 0)) = toI y
  rw [toI_toNat, hy]
  exact wr_u64 om om
def mostE (σ : Sp) (tag : Nat) : Nat := if tag = 4 then spRoom σ 0 / 16 else spRoom σ 0 / 12
theorem most_ok (b db tag : Nat) (σ : Sp) (h : SpOk σ) :
  FnSpec Tryz.prog 148 [.res fun _ => SpaceR b db σ] [.pt fun _ => ⟨b, 0, none⟩, .int .u8 fun _ => toI tag] (fun v hp => v = .int .i64 (fun _ => toI (mostE σ tag)) ∧ hp = [.res fun _ => SpaceR b db σ]) := by
 have hr := spc_Room b db 0 σ (by omega) h
 have hb : spRoom σ 0 ≤ 4096 := by
  have := h.geo.h2
  unfold spRoom
  split <;> omega
 obtain ⟨m, hm⟩ : ∃ m, mostE σ tag = m := ⟨_, rfl⟩
 rw [hm]
 unfold mostE at hm
 revert hr hb hm
 generalize spRoom σ 0 = R
 intro hr hbb hm
 refine spec_cl mixed F148 rfl rfl rfl (fun Γ hΓ hb => ?_)
 cbv
 have hq : ∀ c : Nat, 0 < c → (toI R).tdiv (toI c) = toI (R / c) := fun c hc => by
  simp only [toI]
  rw [Int.tdiv_eq_ediv_of_nonneg (by omega)]
  exact (Int.natCast_ediv R c).symm
 refine ⟨fun hc => ?_, fun hc => ?_⟩
 ·have ht : tag = 4 := by have := eq_of_beq hc; exact om
  rw [if_pos ht] at hm
  cbv
  refine cP hΓ (hr) [0] ?_
  rintro x hp' ⟨rfl, rfl⟩
  refine ⟨rfl, ?_⟩
  cbv
  have e1 : (toI R).tdiv 16 = toI (R / 16) := hq 16 (by omega)
  rw [e1, hm]
  refine VC.mk ⟨by omega, rf⟩ ?_
  cbv
  exact Cl.same rfl ⟨rfl, rfl⟩
 ·have ht : tag ≠ 4 := fun h => by rw [h] at hc; cases hc
  rw [if_neg ht] at hm
  cbv
  refine cP hΓ (hr) [0] ?_
  rintro x hp' ⟨rfl, rfl⟩
  refine ⟨rfl, ?_⟩
  cbv
  have e1 : (toI R).tdiv 12 = toI (R / 12) := hq 12 (by omega)
  rw [e1, hm]
  refine VC.mk ⟨by omega, rf⟩ ?_
  cbv
  exact Cl.same rfl ⟨rfl, rfl⟩
end Go.Proofs.YtfoffehokhkohaaGreat
