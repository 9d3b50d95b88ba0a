/- Part 1 of what is proved in the last text (packed by a program of mine). -/
import Derived.Laws.StructEq
import Derived.Laws.Slices
import Derived.Laws.Small
import Derived.Laws.Build
import Derived.Laws.BytesString
import Derived.Test.YtfoffehokhkohaaGreatK00
set_option linter.all false
namespace Go.Proofs.YtfoffehokhkohaaGreat
open Go
inductive APP (any inn ext new : Th Prop) : Prop where
 | any (h : any ())
 | inn (h : inn ())
 | ext (h : ext ())
 | new (h : new ())
inductive CPY (inn ext : Th Prop) : Prop where
 | inn (h : inn ())
 | ext (h : ext ())
def Col.cut (off m : Th Nat) : Col → Col
 | .b8 l => .b8 fun _ => ((l ()).drop (off ())).take (m ())
 | .nat k l => .nat k fun _ => ((l ()).drop (off ())).take (m ())
 | .int k l => .int k fun _ => ((l ()).drop (off ())).take (m ())
 | .bool l => .bool fun _ => ((l ()).drop (off ())).take (m ())
 | .str l => .str fun _ => ((l ()).drop (off ())).take (m ())
 | .val l => .val fun _ => ((l ()).drop (off ())).take (m ())
def Col.app : Col → Col → Option Col
 | .b8 l, .b8 m => some (.b8 fun _ => l () ++ m ())
 | .nat k l, .nat k' m => match k == k' with | true => some (.nat k fun _ => l () ++ m ()) | false => none
 | .int k l, .int k' m => match k == k' with | true => some (.int k fun _ => l () ++ m ()) | false => none
 | .bool l, .bool m => some (.bool fun _ => l () ++ m ())
 | .str l, .str m => some (.str fun _ => l () ++ m ())
 | .val l, .val m => some (.val fun _ => l () ++ m ())
 | _, _ => none
def cutCols (off m : Th Nat) : List Col → List Col
 | [] => []
 | c :: l => c.cut off m :: cutCols off m l
def appCols : List Col → List Col → Option (List Col)
 | [], [] => some []
 | c :: l, d :: m => match c.app d, appCols l m with
  | some x, some r => some (x :: r)
  | _, _ => none
 | _, _ => none
def overC {α : Type} (l : List α) (at_ : Nat) (src : List α) : List α := l.take at_ ++ src ++ l.drop (at_ + src.length)
def Col.over (at_ : Th Nat) : Col → Col → Option Col
 | .b8 l, .b8 m => some (.b8 fun _ => overC (l ()) (at_ ()) (m ()))
 | .nat k l, .nat k' m => match k == k' with | true => some (.nat k fun _ => overC (l ()) (at_ ()) (m ())) | false => none
 | .int k l, .int k' m => match k == k' with | true => some (.int k fun _ => overC (l ()) (at_ ()) (m ())) | false => none
 | .bool l, .bool m => some (.bool fun _ => overC (l ()) (at_ ()) (m ()))
 | .str l, .str m => some (.str fun _ => overC (l ()) (at_ ()) (m ()))
 | .val l, .val m => some (.val fun _ => overC (l ()) (at_ ()) (m ()))
 | _, _ => none
def overCols (at_ : Th Nat) : List Col → List Col → Option (List Col)
 | [], [] => some []
 | c :: l, d :: m => match c.over at_ d, overCols at_ l m with
  | some x, some r => some (x :: r)
  | _, _ => none
 | _, _ => none
def elems (cts : List CT) (hp : List Ch) (y : SV) (K : Th Nat → List Col → Th Prop → Prop) : Prop :=
 match y with
 | .nils => K (fun _ => 0) (zeroCols (fun _ => 0) cts) (fun _ => True)
 | .sl h _ off len _ => match nth hp h with
  | some (.arr _ n _ cs _) => match Nat.beq cs.length cts.length with
   | true => K len (cutCols off len cs) (fun _ => off () + len () ≤ n ())
   | false => False
  | _ => False
 | .str s => match cts with
  | [.b8] => K (fun _ => (s ()).length) [.b8 s] (fun _ => True)
  | _ => False
 | _ => False
def sAppE (bytes : Nat) (cts : List CT) (hp : List Ch) (x : SV) (m : Th Nat) (new : List Col) (hm : Th Prop) (K : KV) : Prop :=
  match x with
  | .nils => VC (fun _ => hm () ∧ m () * bytes ≤ 140737488355328) (fun _ => ∀ (a : Option Addr) (ext : Nat), K (.sl hp.length (fun _ => a) (fun _ => 0) m (fun _ => ext)) (hp ++ [.arr a m (fun _ => ext) new true]))
  | .sl h a off len ext => match nth hp h with
   | some (.arr ad n sp cs true) => match Nat.beq cs.length cts.length, appCols (cutCols off len cs) new with
    | true, some both =>
     APP
      (fun _ => VC (fun _ => hm () ∧ off () + len () ≤ n () ∧ off () + len () + ext () ≤ n () + sp () ∧ (len () + m ()) * bytes ≤ 140737488355328)
       (fun _ => ∀ (a2 a3 : Option Addr) (ext2 : Nat), len () + ext () ≤ len () + m () + ext2 →
        K (.sl hp.length (fun _ => a3) (fun _ => 0) (fun _ => len () + m ()) (fun _ => ext2)) (hp.set h (.gone ad cs.length) ++ [.arr a2 (fun _ => len () + m ()) (fun _ => ext2) both true])))
      (fun _ => match overCols (fun _ => off () + len ()) cs new with
       | some cs' => VC (fun _ => hm () ∧ m () ≤ ext () ∧ off () + len () + m () ≤ n ()) (fun _ => K (.sl h a off (fun _ => len () + m ()) (fun _ => ext () - m ())) (hp.set h (.arr ad n sp cs' true)))
       | none => False)
      (fun _ => match appCols cs new with
       | some cs' => VC (fun _ => hm () ∧ m () ≤ ext () ∧ off () + len () = n () ∧ m () ≤ sp ()) (fun _ => K (.sl h a off (fun _ => len () + m ()) (fun _ => ext () - m ())) (hp.set h (.arr ad (fun _ => n () + m ()) (fun _ => sp () - m ()) cs' true)))
       | none => False)
      (fun _ => VC (fun _ => hm () ∧ off () + len () ≤ n () ∧ ext () < m () ∧ (len () + m ()) * bytes ≤ 140737488355328)
       (fun _ => ∀ (a2 : Option Addr) (ext2 : Nat), K (.sl hp.length (fun _ => a2) (fun _ => 0) (fun _ => len () + m ()) (fun _ => ext2)) (hp ++ [.arr a2 (fun _ => len () + m ()) (fun _ => ext2) both true])))
    | _, _ => False
   | _ => False
  | _ => False
def sApp (bytes : Nat) (cts : List CT) (hp : List Ch) (x y : SV) (K : KV) : Prop :=
 elems cts hp y fun m new hm => sAppE bytes cts hp x m new hm K
def sAppz (bytes : Nat) (cts : List CT) (hp : List Ch) (x y : SV) (K : KV) : Prop :=
 match y with
 | .int _ n => sAppE bytes cts hp x (fun _ => (n ()).toNat) (zeroCols (fun _ => (n ()).toNat) cts) (fun _ => 0 ≤ n () ∧ (n ()).toNat * bytes ≤ 140737488355328) K
 | _ => False
def sCopy (k : Nat) (hp : List Ch) (x y : SV) (K : KV) : Prop :=
 match x with
 | .nils => match y with
  | .nils => K (.int .i64 fun _ => 0) hp
  | .sl .. => K (.int .i64 fun _ => 0) hp
  | .str _ => K (.int .i64 fun _ => 0) hp
  | _ => False
 | .sl h _ off len _ => match nth hp h with
  | some (.arr ad n sp cs true) => match Nat.beq cs.length k with
   | true =>
    match y with
    | .nils => K (.int .i64 fun _ => 0) hp
    | .str s => match overCols off cs [.b8 fun _ => (s ()).take (Nat.min (s ()).length (len ()))] with
     | some cs' => VC (fun _ => off () + Nat.min (s ()).length (len ()) ≤ n ()) (fun _ => K (.int .i64 fun _ => toI (Nat.min (s ()).length (len ()))) (hp.set h (.arr ad n sp cs' true)))
     | none => False
    | .sl h2 _ off2 len2 _ => match nth hp h2 with
     | some (.arr _ n2 _ cs2 _) => CPY (fun _ => match overCols off cs (cutCols off2 (fun _ => Nat.min (len2 ()) (len ())) cs2) with
      | some cs' => VC (fun _ => off2 () + Nat.min (len2 ()) (len ()) ≤ n2 () ∧ off () + Nat.min (len2 ()) (len ()) ≤ n ()) (fun _ => K (.int .i64 fun _ => toI (Nat.min (len2 ()) (len ()))) (hp.set h (.arr ad n sp cs' true)))
      | none => False)
      (fun _ => match appCols (cutCols (fun _ => 0) off cs) (cutCols off2 (fun _ => Nat.min (len2 ()) (len ())) cs2) with
      | some both => VC (fun _ => off2 () + Nat.min (len2 ()) (len ()) ≤ n2 () ∧ off () ≤ n () ∧ off () + Nat.min (len2 ()) (len ()) ≤ n () + sp ())
       (fun _ => K (.int .i64 fun _ => toI (Nat.min (len2 ()) (len ()))) (hp.set h (.arr ad (fun _ => off () + Nat.min (len2 ()) (len ())) (fun _ => n () + sp () - (off () + Nat.min (len2 ()) (len ()))) both true)))
      | none => False)
     | _ => False
    | _ => False
   | false => False
  | _ => False
 | _ => False
def sStoreA (N : Nat) (hp : List Ch) (x v : SV) (K : KV) : Prop :=
 match x, v with
 | .ep h i 0, .av k' l' => match nth hp h with
  | some (.arr a n sp [.nat k l] true) => match k == k' with
   | true => VC (fun _ => (l' ()).length = N ∧ 0 < N ∧ i () + N ≤ n ()) (fun _ => K unit (hp.set h (.arr a n sp [.nat k fun _ => overC (l ()) (i ()) (l' ())] true)))
   | false => False
  | _ => False
 | _, _ => False
def sClear (cts : List CT) (hp : List Ch) (x : SV) (K : KV) : Prop :=
 match x with
 | .nils => K (.tup []) hp
 | .sl h _ off len _ => match nth hp h with
  | some (.arr ad n sp cs true) => match overCols off cs (zeroCols len cts) with
   | some cs' => VC (fun _ => off () + len () ≤ n ()) (fun _ => K (.tup []) (hp.set h (.arr ad n sp cs' true)))
   | none => False
  | _ => False
 | _ => False
def sLen (str : Bool) (hp : List Ch) (x : SV) (K : KV) : Prop :=
 match str, x with
 | false, .nils => K (.int .i64 fun _ => 0) hp
 | false, .sl _ _ _ len _ => K (.int .i64 fun _ => toI (len ())) hp
 | true, .str s => K (.int .i64 fun _ => toI (s ()).length) hp
 | _, _ => False
def sCap (hp : List Ch) (x : SV) (K : KV) : Prop :=
 match x with
 | .nils => K (.int .i64 fun _ => 0) hp
 | .sl _ _ _ len ext => K (.int .i64 fun _ => toI (len () + ext ())) hp
 | _ => False
def sMin (hp : List Ch) (x y : SV) (K : KV) : Prop :=
 match x, y with
 | .int k a, .int k' b => match k == k' with
  | true => K (.int k fun _ => if b () < a () then b () else a ()) hp
  | false => False
 | _, _ => False
def sMin3 (hp : List Ch) (x y z : SV) (K : KV) : Prop :=
 match x, y, z with
 | .int k a, .int k' b, .int k'' c => match k == k', k == k'' with
  | true, true => K (.int k fun _ => if c () < (if b () < a () then b () else a ()) then c () else (if b () < a () then b () else a ())) hp
  | _, _ => False
 | _, _, _ => False
def sMax (hp : List Ch) (x y : SV) (K : KV) : Prop :=
 match x, y with
 | .int k a, .int k' b => match k == k' with
  | true => K (.int k fun _ => if b () > a () then b () else a ()) hp
  | false => False
 | _, _ => False
def colsOf (bs : List Base) : List CT → List (List SV) → Option (List Col × Th Prop)
 | [], [] => some ([], fun _ => True)
 | c :: cts, l :: ls => match c.col bs l, colsOf bs cts ls with
  | some x, some (r, p) => some (x :: r, fun _ => c.fit l ∧ p ())
  | _, _ => none
 | _, _ => none
def heads : List (List SV) → Option (List SV)
 | [] => some []
 | (x :: _) :: l => match heads l with | some r => some (x :: r) | none => none
 | [] :: _ => none
def tails : List (List SV) → List (List SV)
 | [] => []
 | x :: l => x.drop 1 :: tails l
def turn : Nat → List (List SV) → Option (List (List SV))
 | 0, _ => some []
 | k + 1, ls => match heads ls, turn k (tails ls) with
  | some h, some r => some (h :: r)
  | _, _ => none
def evElems (tm : List (Nat × SV)) (k : Nat) : Nat → List (Nat × Operand) → (List (List SV) → Prop) → Prop
 | _, [], K => K []
 | i, (j, x) :: l, K => match Nat.beq i j with
  | true => evO tm x fun v => match v.cells with
   | some vs => match Nat.beq vs.length k with
    | true => evElems tm k (i + 1) l fun r => K (vs :: r)
    | false => False
   | none => False
  | false => False
def sBslice (len : Nat) (cts : List CT) (els : List (List SV)) (hp : List Ch) (K : KV) : Prop :=
 match Nat.beq els.length len, els.all (SV.hsL hp.length), turn cts.length els with
 | true, true, some cols => match colsOf (bases hp) cts cols with
  | some (cs, p) => VC p (fun _ => ∀ b : Nat, K (.sl hp.length (fun _ => some ⟨b, 0, none⟩) (fun _ => 0) (fun _ => len) (fun _ => 0)) (hp ++ [.arr (some ⟨b, 0, none⟩) (fun _ => len) (fun _ => 0) cs true]))
  | none => False
 | _, _, _ => False
def sMkslice (bytes : Nat) (cts : List CT) (hp : List Ch) (l c : SV) (K : KV) : Prop :=
 match l, c with
 | .int _ l, .int _ c => VC (fun _ => 0 ≤ l () ∧ l () ≤ c () ∧ toI bytes * c () ≤ 281474976710656 ∧ c () ≤ 281474976710656)
   (fun _ => ∀ b : Nat, K (.sl hp.length (fun _ => some ⟨b, 0, none⟩) (fun _ => 0) (fun _ => (l ()).toNat) (fun _ => (c ()).toNat - (l ()).toNat))
    (hp ++ [.arr (some ⟨b, 0, none⟩) (fun _ => (c ()).toNat) (fun _ => 0) (zeroCols (fun _ => (c ()).toNat) cts) true]))
 | _, _ => False
def ExtB (hp hp' : List Ch) : Prop := ∃ bs, bases hp' = bases hp ++ bs
def FCalls (P : Program) (f : FuncId) (args : Array Value) (w : World) (R : Ending → World → Prop) : Prop :=
 match (callFunc f args).run P w with
 | .ok (.enter f' as) w' => Calls P f' as w' R
 | .ok (.value v) w' => R (.returned v) w'
 | _ => False
def VCalls (P : Program) (v : Value) (args : Array Value) (w : World) (R : Ending → World → Prop) : Prop :=
 match v with
 | .func fn first caps => match (invoke (.fn fn caps) (first ++ args)).run P w with
  | .ok (.enter f' as) w' => Calls P f' as w' R
  | .ok (.value v) w' => R (.returned v) w'
  | .ok (.round l f tmps assign body) w' => RoundIn Fence.wide 0 P l f tmps assign body w' R
  | _ => False
 | _ => False
def CallPost (Γ : Ctx) (hp : List Ch) (K : KV) (e : Ending) (w' : World) : Prop :=
 ∃ x hp', e = .returned (x.den (bases hp')) ∧ x.hs hp'.length = true ∧ DenH Γ hp' w' ∧ ExtB hp hp' ∧ K x hp'
structure CallP (Γ : Ctx) (f : FuncId) (args : List SV) (hp : List Ch) (K : KV) : Prop where
 h : ∀ w, DenH Γ hp w → FCalls Γ.P f (SV.denL (bases hp) args).toArray w (CallPost Γ hp K)
structure CallV (Γ : Ctx) (f : SV) (args : List SV) (hp : List Ch) (K : KV) : Prop where
 h : ∀ w, DenH Γ hp w → VCalls Γ.P (f.den (bases hp)) (SV.denL (bases hp) args).toArray w (CallPost Γ hp K)
def appL {α : Type} : List α → List α → List α
 | [], m => m
 | x :: l, m => x :: appL l m
def sop (Γ : Ctx) (o : SO) (tm : List (Nat × SV)) (hp : List Ch) (K : KV) : Prop :=
 match o with
 | .mov x => evO tm x fun v => K v hp
 | .pick c a b => evO tm c fun c => match c with
  | .tt => evO tm a fun v => K v hp
  | .ff => evO tm b fun v => K v hp
  | .bl t => evO tm a fun x => evO tm b fun y => BR t (fun _ => K x hp) (fun _ => K y hp)
  | _ => False
 | .alloc ty z => match z.all SV.one, SV.hsL 0 z with
  | true, true => ∀ b : Nat, K (.bp hp.length 0) (hp ++ [.box b ty z true])
  | _, _ => False
 | .allocA _ N cts => ∀ b : Nat, K (.ep hp.length (fun _ => 0) 0) (hp ++ [.arr (some ⟨b, 0, none⟩) (fun _ => N) (fun _ => 0) (zeroCols (fun _ => N) cts) true])
 | .box ty x => evO tm x fun v => match v with
  | .av k l => ∀ b : Nat, K (.ep hp.length (fun _ => 0) 0) (hp ++ [.arr (some ⟨b, 0, none⟩) (fun _ => (l ()).length) (fun _ => 0) [.nat k l] true])
  | v => match v.cells with
   | some l => ∀ b : Nat, K (.bp hp.length 0) (hp ++ [.box b ty l true])
   | none => False
 | .load1 x => evO tm x fun v => sLoad1 Γ hp v K
 | .loadN m x => evO tm x fun v => sLoadN m hp v K
 | .loadA N x => evO tm x fun v => sLoadA N hp v K
 | .store1 x v => evO tm x fun x => evO tm v fun v => sStore1 hp x v K
 | .storeN m x v => evO tm x fun x => evO tm v fun v => sStoreN m hp x v K
 | .storeA N x v => evO tm x fun x => evO tm v fun v => sStoreA N hp x v K
 | .nilck x => evO tm x fun v => sNilck hp v K
 | .bin op ek x y => evO tm x fun x => evO tm y fun y => sBin op ek hp x y K
 | .un op x => evO tm x fun x => sUn op hp x K
 | .conv k x => evO tm x fun x => sConv k hp x K
 | .s2b ty x => evO tm x fun x => sS2b ty hp x K
 | .b2s x => evO tm x fun x => sB2s hp x K
 | .mkfn f first caps => evOs tm first fun fs => evOs tm caps fun cs => K (.fn f fs cs) hp
 | .sliceStr x lo hi => evO tm x fun x => evOpt tm lo fun lo => evOpt tm hi fun hi => sSliceStr hp x lo hi K
 | .slice k x lo hi mx => evO tm x fun x => evOpt tm lo fun lo => evOpt tm hi fun hi => evOpt tm mx fun mx => sSlice k hp x lo hi mx K
 | .sliceA N k x lo hi mx => evO tm x fun x => evOpt tm lo fun lo => evOpt tm hi fun hi => evOpt tm mx fun mx => sSliceA N k hp x lo hi mx K
 | .faddr off x => evO tm x fun x => sFaddr off hp x K
 | .fld off m x => evO tm x fun x => sFld off m hp x K
 | .iaddr k x i => evO tm x fun x => evO tm i fun i => sIaddr k hp x i K
 | .iaddrA N k x i => evO tm x fun x => evO tm i fun i => sIaddrA N k hp x i K
 | .idxStr x i => evO tm x fun x => evO tm i fun i => sIdxStr hp x i K
 | .extr x i => evO tm x fun x => sExtr i hp x K
 | .build z parts => evParts tm parts fun ps => sBuild z ps hp K
 | .bslice _ len cts parts => evElems tm cts.length 0 parts fun els => sBslice len cts els hp K
 | .mkslice _ bytes cts l c => evO tm l fun l => evO tm c fun c => sMkslice bytes cts hp l c K
 | .len s x => evO tm x fun x => sLen s hp x K
 | .cap x => evO tm x fun x => sCap hp x K
 | .app _ bytes cts x y => evO tm x fun x => evO tm y fun y => sApp bytes cts hp x y K
 | .appz _ bytes cts x y => evO tm x fun x => evO tm y fun y => sAppz bytes cts hp x y K
 | .copy k x y => evO tm x fun x => evO tm y fun y => sCopy k hp x y K
 | .clear cts x => evO tm x fun x => sClear cts hp x K
 | .min x y => evO tm x fun x => evO tm y fun y => sMin hp x y K
 | .min3 x y z => evO tm x fun x => evO tm y fun y => evO tm z fun z => sMin3 hp x y z K
 | .max x y => evO tm x fun x => evO tm y fun y => sMax hp x y K
 | .iface t x => evO tm x fun v => K (.val fun _ => .iface t (v.den (bases hp))) hp
 | .callF f args => evOs tm args fun vs => CallP Γ f vs hp K
 | .callV x args => evO tm x fun x => evOs tm args fun vs => match x with
  | .fn (.func f) first caps => CallP Γ f (appL first (appL vs caps)) hp K
  | x => CallV Γ x vs hp K
 | .panic => False
 | .defer _ => False
abbrev KS := St → Prop
def setD (tm : List (Nat × SV)) (d : Option Nat) (v : SV) : List (Nat × SV) :=
 match d with
 | some d => putT tm d v
 | none => tm
def dropD (tm : List (Nat × SV)) (d : Option Nat) : List (Nat × SV) :=
 match d with
 | some d => dropT tm d
 | none => tm
def dOk (n : Nat) (d : Option Nat) : Bool :=
 match d with
 | some d => Nat.blt d n
 | none => true
def sdo (Γ : Ctx) (i : SI) (st : St) (K : KS) : Prop :=
 match i.o with
 | .defer x => evO st.tm x fun v => match v with
  | .fn (.func f) first caps => match dOk st.n i.d with
   | true => K { st with tm := dropD st.tm i.d, df := (.func f, caps, first) :: st.df }
   | false => False
  | _ => False
 | o => sop Γ o st.tm st.hp fun v hp => match dOk st.n i.d, v.hs hp.length with
  | true, true => K { st with tm := setD st.tm i.d v, hp := hp }
  | _, _ => False
def undD (n : Nat) (tm : List (Nat × SV)) (d : Option Nat) : List (Nat × SV) :=
 match d with
 | some d => match Nat.blt d n with
  | true => putT tm d (.tup [])
  | false => dropT tm d
 | none => tm
def sstep (Γ : Ctx) (i : SI) (st : St) (K : KS) : Prop :=
 match i.g with
 | none => sdo Γ i st K
 | some (t, want) => match look st.tm t with
  | some .tt => match want with
   | true => sdo Γ i st K
   | false => K { st with tm := undD st.n st.tm i.d }
  | some .ff => match want with
   | true => K { st with tm := undD st.n st.tm i.d }
   | false => sdo Γ i st K
  | some (.tup []) => K { st with tm := undD st.n st.tm i.d }
  | some (.bl b) => BR b
    (fun _ => match want with
     | true => sdo Γ i (st.put t .tt) K
     | false => K { st with tm := undD st.n (putT st.tm t .tt) i.d })
    (fun _ => match want with
     | true => K { st with tm := undD st.n (putT st.tm t .ff) i.d }
     | false => sdo Γ i (st.put t .ff) K)
  | _ => False
def ssteps (Γ : Ctx) : List SI → St → KS → Prop
 | [], st, K => K st
 | i :: l, st, K => sstep Γ i st fun st => ssteps Γ l st K
end Go.Proofs.YtfoffehokhkohaaGreat
namespace Go.Proofs.YtfoffehokhkohaaGreat
open Go
def RunE (Γ : Ctx) (hp : List Ch) (w : World) (s : Sem Value) (K : KV) : Prop :=
 ∃ x hp' w', s.run Γ.P w = .ok (x.den (bases hp')) w' ∧ DenH Γ hp' w' ∧ ExtB hp hp' ∧ K x hp'
def RunL (Γ : Ctx) (hp : List Ch) (w : World) (s : Sem Value) (K : KV) : Prop :=
 ∃ x hp', s.run Γ.P w = .ok (x.den (bases hp')) w ∧ DenH Γ hp' w ∧ ExtB hp hp' ∧ K x hp'
def RunP (Γ : Ctx) (hp : List Ch) (s : Sem Value) (K : KV) : Prop :=
 ∃ x, (∀ w, s.run Γ.P w = .ok (x.den (bases hp)) w) ∧ K x hp
theorem ExtB.refl (hp : List Ch) : ExtB hp hp := ⟨[], by simp⟩
theorem ExtB.push (hp : List Ch) (c : Ch) : ExtB hp (hp ++ [c]) := ⟨[c.base], by simp [bases]⟩
theorem ExtB.trans {a b c : List Ch} (h : ExtB a b) (k : ExtB b c) : ExtB a c := by
 obtain ⟨x, hx⟩ := h
 obtain ⟨y, hy⟩ := k
 exact ⟨x ++ y, by rw [hy, hx]; simp⟩
theorem ExtB.of_eq {a b : List Ch} (h : bases b = bases a) : ExtB a b := ⟨[], by simp [h]⟩
theorem ExtB.den {hp hp' : List Ch} (h : ExtB hp hp') {x : SV} (hx : x.hs hp.length = true) : x.den (bases hp') = x.den (bases hp) := by
 obtain ⟨bs, hb⟩ := h
 rw [hb]
 exact den_ext _ _ x (by simpa using hx)
theorem ExtB.le {hp hp' : List Ch} (h : ExtB hp hp') : hp.length ≤ hp'.length := by
 obtain ⟨bs, hb⟩ := h
 have := congrArg List.length hb
 simp at this; omega
theorem RunP.same {Γ : Ctx} {hp : List Ch} {s : Sem Value} {K : KV} {x : SV} (h : ∀ w, s.run Γ.P w = .ok (x.den (bases hp)) w) (hK : K x hp) : RunP Γ hp s K := ⟨x, h, hK⟩
theorem RunL.same {Γ : Ctx} {hp : List Ch} {w : World} {s : Sem Value} {K : KV} {x : SV} (hd : DenH Γ hp w) (h : s.run Γ.P w = .ok (x.den (bases hp)) w) (hK : K x hp) : RunL Γ hp w s K :=
 ⟨x, hp, h, hd, ExtB.refl _, hK⟩
theorem RunE.same {Γ : Ctx} {hp : List Ch} {w : World} {s : Sem Value} {K : KV} {x : SV} (hd : DenH Γ hp w) (h : s.run Γ.P w = .ok (x.den (bases hp)) w) (hK : K x hp) : RunE Γ hp w s K :=
 ⟨x, hp, w, h, hd, ExtB.refl _, hK⟩
theorem svOf_den (bs : List Base) (v : Value) : (svOf v).den bs = v := by
 unfold svOf
 split <;> simp [SV.den]
theorem svOfs_den (bs : List Base) (l : List Value) : SV.denL bs (svOfs l) = l := by
 induction l with
 | nil => rfl
 | cons v l ih => simp [svOfs, SV.denL, svOf_den, ih]
def denD (bs : List Base) (d : Fn × List SV × List SV) : Deferred :=
 match d.1 with
 | .yield r => { target := .collected r, args := #[] }
 | f => { target := .fn f (SV.denL bs d.2.1).toArray, args := (SV.denL bs d.2.2).toArray }
structure DenT (st : St) (a : Act) : Prop where
 size : a.tmps.size = st.n
 df : a.defers = st.df.map (denD (bases st.hp))
 dh : ∀ d ∈ st.df, SV.hsL st.hp.length d.2.1 = true ∧ SV.hsL st.hp.length d.2.2 = true
 tm : ∀ t x, look st.tm t = some x → a.tmps[t]? = some (x.den (bases st.hp)) ∧ x.hs st.hp.length = true
theorem svOf_hs (v : Value) (n : Nat) : (svOf v).hs n = true := by
 unfold svOf
 split <;> rfl
def TmOk (tm : List (Nat × SV)) (hp : List Ch) (a : Act) : Prop := ∀ t x, look tm t = some x → a.tmps[t]? = some (x.den (bases hp)) ∧ x.hs hp.length = true
theorem evO_ok {tm : List (Nat × SV)} {hp : List Ch} {a : Act} {x : Operand} {K : SV → Prop} (h : evO tm x K) (hd : TmOk tm hp a) : ∃ v, K v ∧ a.eval x = v.den (bases hp) ∧ v.hs hp.length = true := by
 unfold evO at h
 split at h
 ·rename_i t
  cases hl : look tm t with
  | none => rw [hl] at h; exact h.elim
  | some v =>
   rw [hl] at h
   obtain ⟨h1, h2⟩ := hd t v hl
   exact ⟨v, h, by simp [Act.eval, h1], h2⟩
 ·rename_i v
  exact ⟨_, h, (svOf_den _ v).symm, svOf_hs v _⟩
 ·rename_i f
  exact ⟨_, h, by simp [Act.eval, SV.den, SV.denL], by simp [SV.hs, SV.hsL]⟩
 ·rename_i g
  exact ⟨_, h, by simp [Act.eval, SV.den], rfl⟩
theorem evOs_ok {tm : List (Nat × SV)} {hp : List Ch} {a : Act} : ∀ (l : List Operand) {K : List SV → Prop} (_ : evOs tm l K) (_ : TmOk tm hp a), ∃ vs, K vs ∧ l.map a.eval = SV.denL (bases hp) vs ∧ SV.hsL hp.length vs = true
 | [], _, h, _ => ⟨[], h, rfl, rfl⟩
 | x :: l, _, h, hd => by
  obtain ⟨v, h1, h2, h3⟩ := evO_ok h hd
  obtain ⟨vs, h4, h5, h6⟩ := evOs_ok l h1 hd
  exact ⟨v :: vs, h4, by simp [SV.denL, h2, h5], by simp [SV.hsL, h3, h6]⟩
theorem evOpt_ok {tm : List (Nat × SV)} {hp : List Ch} {a : Act} {x : Option Operand} {K : Option SV → Prop} (h : evOpt tm x K) (hd : TmOk tm hp a) :
  ∃ v : Option SV, K v ∧ x.map a.eval = v.map (SV.den (bases hp)) := by
 cases x with
 | none => exact ⟨none, h, rfl⟩
 | some x =>
  obtain ⟨v, h1, h2, _⟩ := evO_ok h hd
  exact ⟨some v, h1, by simp [h2]⟩
theorem base_at {hp : List Ch} {h : Nat} {c : Ch} (hc : nth hp h = some c) : baseA (bases hp) h = c.base.1 ∧ baseK (bases hp) h = c.base.2 := by
 rw [nth_eq] at hc
 simp [baseA, baseK, bases, hc]
structure TI (P : Program) (t : Nat) (size bytes : Nat) (z : List Value) : Prop where
 h : ∃ i v, P.info? t = some i ∧ i.size = size ∧ i.bytes = bytes ∧ i.zero = some v ∧ v.cells.toList = z
section runs
variable {P : Program} {w : World}
theorem TI.sizeOf {t size bytes : Nat} {z : List Value} (h : TI P t size bytes z) (w : World) : (sizeOf t).run P w = .ok size w := by
 obtain ⟨i, v, h1, h2, _⟩ := h.h
 simp [Go.sizeOf, typeInfo, h1, h2]
theorem TI.zero {t size bytes : Nat} {z : List Value} (h : TI P t size bytes z) (w : World) : ∃ v, (zeroValue t).run P w = .ok v w ∧ v.cells.toList = z := by
 obtain ⟨i, v, h1, _, _, h4, h5⟩ := h.h
 exact ⟨v, by simp [zeroValue, typeInfo, h1, h4], h5⟩
def notAgg (d : TypeDesc) : Bool := match d with | .struct _ | .array _ _ => false | _ => true
theorem run_isAgg {t : Nat} {d : TypeDesc} (h : P.underlying t = some d) (w : World) : (isAgg t).run P w = .ok (!notAgg d) w := by
 unfold isAgg
 rw [Sem.run_bind, run_underlying h w]
 cases d <;> rfl
theorem run_load1 {t : Nat} {d : TypeDesc} (h : P.underlying t = some d) (hd : notAgg d = true) {a : Addr} {v : Value} (hc : w.cell? a = some v) :
  (Instr.loadAt t (.pointer (some a))).run P w = .ok v w := by
 simp [Instr.loadAt, Instr.sureAddr, loadVar, run_isAgg h, hd, hc]
theorem add_none (b o i : Nat) : (⟨b, o, none⟩ : Addr).add i = ⟨b, o + i, none⟩ := by
 unfold Addr.add; split <;> simp_all
theorem run_loadN {t m bytes : Nat} {z : List Value} {d : TypeDesc} (h : P.underlying t = some d) (hd : notAgg d = false) (hi : TI P t m bytes z) {b o : Nat} {cs : List Value} (hl : cs.length = m)
  (hc : ∀ j v, cs[j]? = some v → w.cell? ⟨b, o + j, none⟩ = some v) : (Instr.loadAt t (.pointer (some ⟨b, o, none⟩))).run P w = .ok (.agg cs.toArray) w := by
 have h1 := run_loadCells_list (P := P) w ⟨b, o, none⟩ cs (fun j v hv => by rw [add_none]; exact hc j v hv)
 rw [hl] at h1
 simp [Instr.loadAt, Instr.sureAddr, loadVar, run_isAgg h, hd, hi.sizeOf, h1]
theorem run_store1 {t bytes : Nat} {z : List Value} (hi : TI P t 1 bytes z) {a : Addr} {v : Value} (h1 : v.oneCell' = true) (hc : (w.cell? a).isSome = true) (hf : w.frozen? a = false) :
  (Instr.storeAt t (.pointer (some a)) v).run P w = .ok () (w.setCell a v) := by
 obtain ⟨u, hu⟩ := Option.isSome_iff_exists.1 hc
 have hcells : v.cells = #[v] := by cases v <;> simp_all [Value.cells, Value.oneCell']
 simp [Instr.storeAt, Instr.sureAddr, storeVar, hi.sizeOf, hcells, storeCells, run_store, h1, hu, hf, Addr.add]
end runs
theorem sLoad1_ok {Γ : Ctx} {hp : List Ch} {w : World} {x : SV} {K : KV} (h : sLoad1 Γ hp x K) (hd : DenH Γ hp w) {t : Nat} {d : TypeDesc} (ht : Γ.P.underlying t = some d) (hn : notAgg d = true) :
  RunL Γ hp w (Instr.loadAt t (x.den (bases hp))) K := by
 unfold sLoad1 at h
 split at h
 ·rename_i hh off
  split at h
  ·rename_i b ty l ex hc
   split at h
   ·rename_i v hv
    obtain ⟨hb, _⟩ := base_at hc
    rw [nth_eq] at hc hv
    obtain ⟨S, hS⟩ := hd.at hc
    refine RunL.same hd ?_ h
    simp only [SV.den, hb, Ch.base, Option.map_some, Nat.zero_add]
    exact run_load1 ht hn (cell_box hS hv)
   ·exact h.elim
  ·exact h.elim
 ·rename_i hh i j
  split at h
  ·rename_i a n sp cs ex hc
   have main : ∀ c, nth cs j = some c → i () < n () → (Instr.loadAt t ((SV.ep hh i j).den (bases hp))).run Γ.P w = .ok ((c.get i).den (bases hp)) w := by
    intro c hj hl
    obtain ⟨hb, hk⟩ := base_at hc
    rw [nth_eq] at hc hj
    obtain ⟨S, hS⟩ := hd.at hc
    obtain ⟨ad, rfl, hcell⟩ := cell_arr hS hl hj
    simp only [SV.den, hb, hk, Ch.base, Option.map_some]
    exact run_load1 ht hn hcell
   split at h
   ·rename_i l hj
    have hr := main _ hj h.l
    obtain ⟨x, hp', h1, h2, h3⟩ := h.r.h
    obtain ⟨h4, h5⟩ := h1 w hd
    refine ⟨x, hp', ?_, h4, h2, h3⟩
    rw [hr, ← h5]
    simp [Col.get, SV.den]
   ·rename_i c _ hj
    exact RunL.same hd (main c hj h.l) h.r
   ·exact h.elim
  ·exact h.elim
 ·exact h.elim
theorem getCols_get (cs : List Col) (i : Th Nat) (j : Nat) : (getCols cs i)[j]? = (cs[j]?).map (·.get i) := by
 induction cs generalizing j with
 | nil => simp [getCols]
 | cons c cs ih => cases j <;> simp [getCols, ih]
theorem getCols_length (cs : List Col) (i : Th Nat) : (getCols cs i).length = cs.length := by
 induction cs with
 | nil => rfl
 | cons c cs ih => simp [getCols, ih]
theorem sLoadN_ok {Γ : Ctx} {hp : List Ch} {w : World} {x : SV} {m : Nat} {K : KV} (h : sLoadN m hp x K) (hd : DenH Γ hp w) {t bytes : Nat} {z : List Value} {d : TypeDesc}
  (ht : Γ.P.underlying t = some d) (hn : notAgg d = false) (hi : TI Γ.P t m bytes z) : RunL Γ hp w (Instr.loadAt t (x.den (bases hp))) K := by
 unfold sLoadN at h
 split at h
 ·rename_i hh off
  split at h
  ·rename_i b ty l ex hc
   split at h
   ·rename_i hle
    have hle := Nat.le_of_ble_eq_true hle
    obtain ⟨hb, _⟩ := base_at hc
    rw [nth_eq] at hc
    obtain ⟨S, hS⟩ := hd.at hc
    refine RunL.same hd ?_ h
    simp only [SV.den, hb, Ch.base, Option.map_some, Nat.zero_add]
    refine run_loadN ht hn hi (by simp [subL]; omega) fun j v hv => ?_
    rw [denL_map, List.getElem?_map, Option.map_eq_some_iff] at hv
    obtain ⟨y, hy, rfl⟩ := hv
    refine cell_box hS ?_
    simp only [subL] at hy
    have hj : j < m := by
     have := (List.getElem?_eq_some_iff.1 hy).1
     simp at this; omega
    rwa [List.getElem?_take_of_lt hj, List.getElem?_drop] at hy
   ·exact h.elim
  ·exact h.elim
 ·rename_i hh i j
  split at h
  ·rename_i a n sp cs ex hc
   split at h
   ·rename_i hle
    have hle := Nat.le_of_ble_eq_true hle
    obtain ⟨hb, hk⟩ := base_at hc
    rw [nth_eq] at hc
    obtain ⟨S, hS⟩ := hd.at hc
    refine RunL.same hd ?_ h.r
    have hl := h.l
    obtain ⟨ad, rfl⟩ : ∃ ad, a = some ad := by
     cases a with
     | none => have := hS.2.1; omega
     | some ad => exact ⟨ad, rfl⟩
    simp only [SV.den, hb, hk, Ch.base, Option.map_some]
    refine run_loadN ht hn hi (by simp [getCols_length]; omega) fun q v hv => ?_
    rw [denL_map, List.getElem?_map, Option.map_eq_some_iff] at hv
    obtain ⟨y, hy, rfl⟩ := hv
    rw [getCols_get, Option.map_eq_some_iff] at hy
    obtain ⟨c, hc', rfl⟩ := hy
    have hq : q < m := by
     have := (List.getElem?_eq_some_iff.1 hc').1
     simp at this; omega
    rw [List.getElem?_take_of_lt hq, List.getElem?_drop] at hc'
    obtain ⟨ad', he, hcell⟩ := cell_arr hS hl hc'
    cases he
    rw [show ad.off + (i () * cs.length + j) + q = ad.off + (i () * cs.length + (j + q)) by omega]
    exact hcell
   ·exact h.elim
  ·exact h.elim
 ·exact h.elim
theorem flat_one (c : Col) (n : Nat) (h : c.vals.length = n) : flat [c] n = c.vals := by
 apply List.ext_getElem?
 intro i
 by_cases hi : i < n
 ·have := flat_get [c] n i 0 c hi rfl
  simp only [List.length_singleton, Nat.mul_one, Nat.add_zero] at this
  rw [this, List.getElem?_eq_getElem (by omega)]
  rfl
 ·rw [List.getElem?_eq_none (by rw [length_flat]; simp; omega), List.getElem?_eq_none (by omega)]
theorem sLoadA_ok {Γ : Ctx} {hp : List Ch} {w : World} {x : SV} {N : Nat} {K : KV} (h : sLoadA N hp x K) (hd : DenH Γ hp w) {t bytes : Nat} {z : List Value} {d : TypeDesc}
  (ht : Γ.P.underlying t = some d) (hn : notAgg d = false) (hi : TI Γ.P t N bytes z) : RunL Γ hp w (Instr.loadAt t (x.den (bases hp))) K := by
 unfold sLoadA at h
 split at h
 ·rename_i hh i
  split at h
  ·rename_i a n sp k l ex hc
   obtain ⟨hb, hk⟩ := base_at hc
   rw [nth_eq] at hc
   obtain ⟨S, hS⟩ := hd.at hc
   obtain ⟨hi0, hN, hpos⟩ := h.l
   refine RunL.same hd ?_ h.r
   cases a with
   | none =>
    have h0 := hS.2.1
    omega
   | some ad =>
    have hlen : (Col.nat k l).vals.length = n () := (hS.1 _ (by simp)).1
    simp only [SV.den, hb, hk, Ch.base, Option.map_some, hi0, Nat.zero_mul, Nat.add_zero]
    refine run_loadN ht hn hi (by simpa [Col.vals, hN] using hlen) fun j v hv => ?_
    have := hS.2.2.2.1 j v (by rw [flat_one _ _ hlen]; exact hv)
    exact this
  ·exact h.elim
 ·exact h.elim
def RunU (Γ : Ctx) (hp : List Ch) (w : World) (s : Sem Unit) (K : KV) : Prop :=
 ∃ hp' w', s.run Γ.P w = .ok () w' ∧ DenH Γ hp' w' ∧ ExtB hp hp' ∧ K unit hp'
theorem sStore1_ok {Γ : Ctx} {hp : List Ch} {w : World} {x v : SV} {K : KV} (h : sStore1 hp x v K) (hd : DenH Γ hp w) {t bytes : Nat} {z : List Value} (hi : TI Γ.P t 1 bytes z) :
  RunU Γ hp w (Instr.storeAt t (x.den (bases hp)) (v.den (bases hp))) K := by
 unfold sStore1 at h
 split at h
 ·rename_i hh off
  split at h
  ·rename_i b ty l hc
   split at h
   ·rename_i h1 h2 h3
    have h1 := blt_lt h1
    obtain ⟨hb, _⟩ := base_at hc
    rw [nth_eq] at hc
    obtain ⟨S, hS⟩ := hd.at hc
    refine ⟨_, _, ?_, hd.storeBox hc off v h3 h2, ExtB.of_eq (bases_set hc rfl), h⟩
    simp only [SV.den, hb, Ch.base, Option.map_some, Nat.zero_add]
    have hcell := cell_box hS (List.getElem?_eq_getElem h1)
    exact run_store1 hi (one_den h2) (by rw [hcell]; rfl) (frozen_of_row _ _ _ _ _ hS.1)
   ·exact h.elim
  ·exact h.elim
 ·rename_i hh i j
  split at h
  ·rename_i a n sp cs hc
   split at h
   ·rename_i c hj
    split at h
    ·rename_i c' hs
     obtain ⟨hb, hk⟩ := base_at hc
     rw [nth_eq] at hc hj
     obtain ⟨hlt, hf⟩ := h.l
     obtain ⟨ad, rfl, hcell, hfz, hden⟩ := hd.storeArr hc i j c c' v hlt hj hs hf
     refine ⟨_, _, ?_, hden, ExtB.of_eq (bases_set hc (by simp [Ch.base])), h.r⟩
     simp only [SV.den, hb, hk, Ch.base, Option.map_some]
     exact run_store1 hi (Col.set_vals hs hf).2 hcell hfz
    ·exact h.elim
   ·exact h.elim
  ·exact h.elim
 ·exact h.elim
theorem storeCells_ok {Γ : Ctx} {k b ty : Nat} (off : Nat) : ∀ (vs : List SV) (i : Nat) (hp : List Ch) (w : World) (l : List SV), DenH Γ hp w → hp[k]? = some (.box b ty l true) → off + i + vs.length ≤ l.length →
  vs.all SV.one = true → SV.hsL hp.length vs = true →
  ∃ w', (storeCells ⟨b, off, none⟩ (SV.denL (bases hp) vs) i).run Γ.P w = .ok () w' ∧ DenH Γ (hp.set k (.box b ty (overL l (off + i) vs) true)) w'
 | [], i, hp, w, l, hd, hk, _, _, _ => by
  refine ⟨w, by simp [SV.denL, storeCells], ?_⟩
  have : hp.set k (.box b ty (overL l (off + i) []) true) = hp := by
   apply List.ext_getElem?
   intro j
   rw [List.getElem?_set]
   split
   ·rename_i e
    subst e
    rw [if_pos (List.getElem?_eq_some_iff.1 hk).1]
    exact hk.symm
   ·rfl
  rw [this]; exact hd
 | v :: vs, i, hp, w, l, hd, hk, hl, h1, h2 => by
  simp only [List.all_cons, Bool.and_eq_true] at h1
  simp only [SV.hsL, Bool.and_eq_true] at h2
  simp only [List.length_cons] at hl
  have hlt : k < hp.length := (List.getElem?_eq_some_iff.1 hk).1
  have hd' := hd.storeBox hk (off + i) v h2.1 h1.1
  obtain ⟨w', hr, hd''⟩ := storeCells_ok (Γ := Γ) (k := k) (b := b) (ty := ty) off vs (i + 1) (hp.set k (.box b ty (l.set (off + i) v) true)) _ (l.set (off + i) v) hd' (List.getElem?_set_self hlt) (by rw [List.length_set]; omega) h1.2 (by simpa using h2.2)
  obtain ⟨S, hS⟩ := hd.at hk
  have hcell := cell_box hS (List.getElem?_eq_getElem (show off + i < l.length by omega))
  rw [bases_set (c' := .box b ty (l.set (off + i) v) true) hk rfl] at hr
  refine ⟨w', ?_, ?_⟩
  ·simp only [SV.denL, storeCells, Sem.run_bind, add_none]
   rw [run_store _ _ _ _ _ (one_den h1.1), hcell, frozen_of_row _ _ _ _ _ hS.1]
   simpa using hr
  ·rw [List.set_set] at hd''
   simpa [overL, Nat.add_assoc] using hd''
theorem sStoreN_ok {Γ : Ctx} {hp : List Ch} {w : World} {m : Nat} {x v : SV} {K : KV} (h : sStoreN m hp x v K) (hd : DenH Γ hp w) {t bytes : Nat} {z : List Value} (hi : TI Γ.P t m bytes z) :
  RunU Γ hp w (Instr.storeAt t (x.den (bases hp)) (v.den (bases hp))) K := by
 unfold sStoreN at h
 split at h
 ·rename_i hh off vs
  split at h
  ·rename_i b ty l hc
   split at h
   ·rename_i h1 h2 h3 h4
    have h1 := Nat.eq_of_beq_eq_true h1
    have h2 := Nat.le_of_ble_eq_true h2
    obtain ⟨hb, _⟩ := base_at hc
    rw [nth_eq] at hc
    obtain ⟨w', hr, hd'⟩ := storeCells_ok off vs 0 hp w l hd hc (by omega) h3 h4
    refine ⟨_, w', ?_, hd', ExtB.of_eq (bases_set hc rfl), h⟩
    simp only [SV.den, hb, Ch.base, Option.map_some, Nat.zero_add]
    simp [Instr.storeAt, Instr.sureAddr, storeVar, hi.sizeOf, Value.cells, h1, hr]
   ·exact h.elim
  ·exact h.elim
 ·exact h.elim
def nilFine : Value → Bool
 | .pointer (some _) => true
 | .func (.func _) _ _ => true
 | _ => false
theorem sNilck_ok {Γ : Ctx} {hp : List Ch} {w : World} {x : SV} {K : KV} (h : sNilck hp x K) (hd : DenH Γ hp w) : nilFine (x.den (bases hp)) = true ∧ K x hp := by
 unfold sNilck at h
 split at h
 ·rename_i hh off
  split at h
  ·rename_i b ty l ex hc
   obtain ⟨hb, _⟩ := base_at hc
   refine ⟨?_, h⟩
   simp [SV.den, hb, Ch.base, nilFine]
  ·exact h.elim
 ·rename_i hh i j
  split at h
  ·rename_i a n sp cs ex hc
   obtain ⟨hb, hk⟩ := base_at hc
   rw [nth_eq] at hc
   obtain ⟨S, hS⟩ := hd.at hc
   refine ⟨?_, h.r⟩
   have hl := h.l
   cases a with
   | none => have := hS.2.1; omega
   | some ad => simp [SV.den, hb, hk, Ch.base, nilFine]
  ·exact h.elim
 ·exact ⟨by simp [SV.den, nilFine], h⟩
 ·rename_i a
  refine ⟨?_, h.r⟩
  have hl := h.l
  obtain ⟨ad, ha⟩ := Option.isSome_iff_exists.1 hl
  simp [SV.den, ha, nilFine]
 ·split at h
  ·exact ⟨by simp [SV.den, nilFine], h⟩
  ·exact h.elim
 ·exact h.elim
theorem sFaddr_ok {Γ : Ctx} {hp : List Ch} {w : World} {x : SV} {off : Nat} {K : KV} (h : sFaddr off hp x K) (hd : DenH Γ hp w) {s fi : Nat} {fs : Array Field} {f : Field}
  (ht : Γ.P.underlying s = some (.struct fs)) (hf : fs[fi]? = some f) (ho : f.offset = off) {m bytes : Nat} {z : List Value} (hi : TI Γ.P f.type (m + 1) bytes z) :
  RunP Γ hp (Instr.fieldAt s (x.den (bases hp)) fi) K := by
 have run : ∀ (a : Addr) (w : World), (Instr.fieldAt s (.pointer (some a)) fi).run Γ.P w = .ok (.pointer (some (a.add off))) w := by
  intro a w
  simp [Instr.fieldAt, run_underlying ht, hf, Instr.sureAddr, fieldPlace, hi.sizeOf, ho]
 unfold sFaddr at h
 split at h
 ·rename_i hh o
  split at h
  ·rename_i b ty l ex hc
   obtain ⟨hb, _⟩ := base_at hc
   refine RunP.same (fun w => ?_) h
   simp only [SV.den, hb, Ch.base, Option.map_some]
   rw [run, add_none, Nat.add_assoc]
  ·exact h.elim
 ·rename_i hh i j
  split at h
  ·rename_i a n sp cs ex hc
   obtain ⟨hb, hk⟩ := base_at hc
   rw [nth_eq] at hc
   obtain ⟨S, hS⟩ := hd.at hc
   refine RunP.same (fun w => ?_) h.r
   have hl := h.l
   cases a with
   | none => have := hS.2.1; omega
   | some ad =>
    simp only [SV.den, hb, hk, Ch.base, Option.map_some]
    rw [run, add_none]
    simp only [Nat.add_assoc]
  ·exact h.elim
 ·exact h.elim
def FldTy (P : Program) (ty : Nat) (d : TypeDesc) : Option Nat → Prop
 | some m => notAgg d = false ∧ ∃ bytes z, TI P ty m bytes z
 | none => notAgg d = true
theorem sFld_ok {Γ : Ctx} {hp : List Ch} {w : World} {x : SV} {off : Nat} {m : Option Nat} {K : KV} (h : sFld off m hp x K) (hd : DenH Γ hp w) {s fi : Nat} {fs : Array Field} {f : Field} {d : TypeDesc}
  (ht : Γ.P.underlying s = some (.struct fs)) (hf : fs[fi]? = some f) (ho : f.offset = off) (hu : Γ.P.underlying f.type = some d)
  (hm : FldTy Γ.P f.type d m) :
  RunP Γ hp (Instr.field s (x.den (bases hp)) fi) K := by
 unfold sFld at h
 split at h
 ·rename_i l
  cases m with
  | some m =>
   obtain ⟨hm, bytes, z, hi⟩ := hm
   dsimp only at h
   split at h
   ·rename_i hle
    refine RunP.same (fun w => ?_) h
    simp [Instr.field, run_underlying ht, hf, SV.den, asAgg, part, run_isAgg hu, hm, hi.sizeOf, ho, denL_map, subL, List.extract_eq_take_drop]
   ·exact h.elim
  | none =>
   have hm : notAgg d = true := hm
   dsimp only at h
   split at h
   ·rename_i v hv
    rw [nth_eq] at hv
    refine RunP.same (fun w => ?_) h
    have hx : (SV.denL (bases hp) l)[off]? = some (v.den (bases hp)) := by simp [denL_map, hv]
    simp [Instr.field, run_underlying ht, hf, SV.den, asAgg, part, run_isAgg hu, hm, ho, hx]
   ·exact h.elim
 ·exact h.elim
theorem sExtr_ok {Γ : Ctx} {hp : List Ch} {w : World} {x : SV} {i : Nat} {K : KV} (h : sExtr i hp x K) (hd : DenH Γ hp w) : RunP Γ hp (Instr.extract (x.den (bases hp)) i) K := by
 unfold sExtr at h
 split at h
 ·rename_i l
  split at h
  ·rename_i v hv
   rw [nth_eq] at hv
   refine RunP.same (fun w => ?_) h
   have hx : (SV.denL (bases hp) l).toArray[i]? = some (v.den (bases hp)) := by simp [denL_map, hv]
   simp [Instr.extract, SV.den, hx]
  ·exact h.elim
 ·exact h.elim
theorem sConv_ok {Γ : Ctx} {hp : List Ch} {w : World} {x : SV} {k : IntKind} {K : KV} (h : sConv k hp x K) (hd : DenH Γ hp w) {src dst : Nat} {d : TypeDesc} (hs : Γ.P.underlying src = some d)
  (ht : Γ.P.underlying dst = some (.int k)) : RunP Γ hp (convert src dst (x.den (bases hp))) K := by
 unfold sConv at h
 split at h
 ·rename_i k' n
  refine RunP.same (fun w => ?_) h
  simp [SV.den, convert, run_underlying hs, run_underlying ht, Conv.intToInt, wr]
 ·exact h.elim
end Go.Proofs.YtfoffehokhkohaaGreat
