/-
  One operation of a region, in the abstract machine. Conditions: none.
-/
import Derived.Test.YthoenpmifmomaaaGreatDoorAm12
noncomputable section
namespace Go.Am
open Go

/-- A text's bytes, in a row of their own. -/
def aToBytes (P : Program) (src dst : TypeId) (x : AV) : Option AV :=
  match P.underlying src, P.underlying dst, x with
  | some _, some (.slice e), .str s =>
    match P.underlying e with
    | some (.int .u8) => some (.isl false none 0 (s.map fun b => .int .u8 b.toNat))
    | _ => none
  | _, _, _ => none

theorem flat_bytes (s : List UInt8) : flat (s.map fun b => AV.int .u8 b.toNat) = s.map fun b => AV.int .u8 b.toNat := by
  induction s with
  | nil => rfl
  | cons b s ih => simp only [List.map_cons, flat, AV.cells, ih]; rfl

theorem run_toBytes {P : Program} {e : TypeId} {s : List UInt8} (w : World) : ∃ cap f, s.length ≤ cap ∧
    (Conv.stringToBytes e ⟨s.toArray⟩).run P w = .ok (.slice (some ⟨w.heap.size, 0, none⟩) s.length cap) { w.drew with heap := w.heap.push (.cells ⟨(s.map fun b => Value.int .u8 b.toNat) ++ List.replicate (cap - s.length) (.int .u8 0)⟩ e f) } := by
  let cap := (Question.appendCap s.length 0 e).cut (w.tape w.drawn (Question.appendCap s.length 0 e))
  have hcap : s.length ≤ cap := by simp only [cap, Question.cut]; omega
  have hes : ((ByteArray.mk s.toArray).data.map fun b => Value.int .u8 b.toNat) ++ Array.replicate (cap - s.length) (Value.int .u8 0) = ⟨(s.map fun b => Value.int .u8 b.toNat) ++ List.replicate (cap - s.length) (.int .u8 0)⟩ := by
    apply Array.ext'; simp
  have hsz : (ByteArray.mk s.toArray).size = s.length := by simp [ByteArray.size]
  let n := (s.map fun b => Value.int .u8 b.toNat).length + (cap - s.length)
  refine ⟨cap, (n, n + 1), hcap, ?_⟩
  unfold Conv.stringToBytes
  rw [hsz]
  have hch : (choose (.appendCap s.length 0 e)).run P w = .ok cap w.drew := rfl
  simp only [Sem.run_bind, hch, Result.andThen_ok, hes]
  have hrow : ∀ (X : Array Value) (w : World), (newRow e X).run P w = .ok ⟨w.heap.size, 0, none⟩ { w with heap := w.heap.push (.cells X e (0, 0)) } := fun X w => by simp [newRow]
  have hmark : ∀ (X : Array Value) (w : World), (markStringish ⟨w.heap.size, 0, none⟩).run P { w with heap := w.heap.push (.cells X e (0, 0)) } = .ok () { w with heap := w.heap.push (.cells X e (X.size, X.size + 1)) } := by
    intro X w
    have h1 : ({ w with heap := w.heap.push (.cells X e (0, 0)) } : World).shape? w.heap.size = some (e, X.size) := by simp [World.shape?]
    have h2 : (markStringish ⟨w.heap.size, 0, none⟩).run P { w with heap := w.heap.push (.cells X e (0, 0)) } = .ok () (({ w with heap := w.heap.push (.cells X e (0, 0)) } : World).freeze ⟨w.heap.size, X.size, none⟩ 1) := by
      unfold markStringish
      simp only [Sem.run_bind, shape, Sem.run, h1, Result.andThen_ok, freeze]
    rw [h2]
    unfold World.freeze
    simp only [Nat.succ_ne_zero, if_false]
    congr 2
    apply Array.ext
    · simp
    · intro i h3 h4
      simp only [Array.getElem_modify, Array.getElem_push]
      by_cases hi : i < w.heap.size
      · rw [if_neg (by omega)]
        simp [hi]
      · have : i = w.heap.size := by simp at h3; omega
        subst this
        simp
  simp only [hrow, Result.andThen_ok, hmark, Sem.run_pure]
  simp [n]
  rfl

theorem aToBytes_ok {P : Program} {G : Gl} {S : Sh} {A : AH} {w : World} (h : Inv G S A w) {src dst : TypeId} {x y : AV} {u : Value} (hx : aToBytes P src dst x = some y) (hu : VRel S x u) :
    VOk P G S A w (convert src dst u) y A := by
  unfold aToBytes at hx
  split at hx
  · rename_i d e s hs hd
    split at hx <;> cases hx
    rename_i he
    cases hu
    have hdrew := (h.drew (w.drawn + 1)).1
    have hdfr := (h.drew (w.drawn + 1)).2
    obtain ⟨cap, f, hcap, hrun⟩ := run_toBytes (P := P) (e := e) (s := s) w
    have hcells : ∀ y ∈ s.map fun b => AV.int .u8 b.toNat, y.cells.length = 1 := by
      intro y hy
      obtain ⟨b, _, rfl⟩ := List.mem_map.1 hy
      rfl
    obtain ⟨i1, i2⟩ := hdrew.fix (s.map fun b => Value.int .u8 b.toNat) (List.replicate (cap - s.length) (.int .u8 0)) e f
    refine ⟨.slice (some ⟨w.heap.size, 0, none⟩) s.length cap, _, _, ?_, i1, hdfr.trans i2, ?_⟩
    · simp only [convert, Sem.run_bind, run_underlying hs, run_underlying hd, Result.andThen_ok]
      cases d <;> simp only [run_underlying he, Result.andThen_ok] <;> exact hrun
    · have key := VRel.isl (S := S.fix w.heap.size (s.map fun b => Value.int .u8 b.toNat)) none 0 (s.map fun b => AV.int .u8 b.toNat) 1 w.heap.size 0 cap (by omega) hcells (by
        rw [flat_bytes]
        refine CRel.of_cells ((LRel.bytes S s).mono i2.le) fun j v hj => ?_
        simp [Sh.fix] at hj ⊢
        exact hj) (by simpa using hcap) (by intro φ hφ; cases hφ)
      simpa using key
  · cases hx

section
variable (P : Program) (G : Gl)

def aParts (ev : Operand → AV) (ps : Array (Nat × Operand)) : List (Nat × AV) := ps.toList.map fun p => (p.1, ev p.2)

/-- A call that is put off. -/
def aDefer (ev : Operand → AV) (c : Call) : Option ADef :=
  match c.callee with
  | .value f =>
    match ev f with
    | .fn fn first cap => some (.fn fn (first ++ c.args.toList.map ev) cap)
    | _ => none
  | _ => none

/-- A value alone. -/
def aVal (A : AH) (x : Option AV) : Option (List AR) := x.map fun v => [.val v A]
def aValH (x : Option (AV × AH)) : Option (List AR) := x.map fun (v, A) => [.val v A]
def aEff (x : Option AH) : Option (List AR) := x.map fun A => [.val .top A]

def aOp (mu rd : Bool) (A : AH) (ev : Operand → AV) (o : Oper) : Option (List AR) :=
  match o.op with
  | .move x | .assign x => some [.val (ev x) A]
  | .pick c a b => match ev c with | .bool t => some [.val (if t then ev a else ev b) A] | _ => none
  | .alloc t => match tZero P t with | some x => if x.isTop then none else some [.val (.ptr A.blks.length 0) (A.push (.cells x.cells t))] | none => none
  | .box t x => if (ev x).isTop then none else some [.val (.ptr A.blks.length 0) (A.push (.cells (ev x).cells t))]
  | .build t ps => aVal A (aBuild P t (aParts ev ps))
  | .buildSlice t n ps => aValH (aBuildSlice P A t n (aParts ev ps))
  | .load t a => aVal A (aLoad P G A t (ev a))
  | .store t a x => aEff (aStore P A t (ev a) (ev x))
  | .nilCheck x =>
    match ev x with
    | .ptr b o => some [.val (.ptr b o) A]
    | .gptr b o => some [.val (.gptr b o) A]
    | .iptr v => some [.val (.iptr v) A]
    | .iface t v => some [.val (.iface t v) A]
    | .fn (.func f) a b => some [.val (.fn (.func f) a b) A]
    | .fn (.yield f) a b => some [.val (.fn (.yield f) a b) A]
    | _ => none
  | .binOp op t x y _ => aVal A (aBin P A op t x y (ev x).weak (ev y).weak)
  | .unOp op _ x => aVal A (aUn op (ev x))
  | .convert src dst x => match aToBytes P src dst (ev x) with | some v => some [.val v A] | none => aVal A (aConvert P A src dst (ev x).weak)
  | .makeInterface t x => aVal A (aIface P t (ev x))
  | .makeFunc fn first cap => match fn with | .yield _ => none | fn => some [.val (.fn fn (first.toList.map ev) (cap.toList.map ev)) A]
  | .makeMap _ none => some [.val (.map A.blks.length) (A.push (.map [] 0))]
  | .makeSlice t l c => aValH (aMake P A t (ev l) (ev c))
  | .slice t x lo hi mx => aVal A (aSliceW P t (ev x) (lo.map ev) (hi.map ev) (mx.map ev))
  | .fieldAddr s x f => aVal A (aFieldAddr P s (ev x) f)
  | .field t x f => aVal A (aField P t (ev x) f)
  | .indexAddr t x i => aVal A (aIndexAddr P t (ev x).weak (ev i))
  | .index t x i => aVal A (aIndex P t (ev x).weak (ev i))
  | .lookup t x i ok => aVal A (aLookup P A t (ev x) (ev i) ok)
  | .mapUpdate t m k x => aEff (aMapUpdate P A t (ev m) (ev k) (ev x))
  | .insert t m k x => aEff (aMapUpdate P A t (ev m) (ev k) (ev x))
  | .range t x => aValH (aRange P A t (ev x))
  | .next it false => (aNext A (ev it)).map fun l => l.map fun (v, A') => .val v A'
  | .entry it => aVal A (aEntry A (ev it))
  | .typeAssert x t as ok => aVal A (aAssert P (ev x) t as ok)
  | .extract t i => aVal A (aExtract (ev t) i)
  | .call c => (aCall P G mu A ev c).map fun r => [r]
  | .defer c => if rd then none else (aDefer ev c).map fun d => [.dfr d A]
  | .panic x => match ev x with | .iface t v => some [.panic (.iface t v) A] | _ => none
  | _ => none

variable {P G}

theorem aVal_rrel {S : Sh} {A : AH} {w : World} (h : Inv G S A w) {x : Option AV} {l : List AR} (hl : aVal A x = some l) {s : Sem Value}
    (hs : ∀ y, x = some y → ∃ v, s.run P w = .ok v w ∧ VRel S y v) : ∃ r ∈ l, RRel G S A w r ((do pure (.value (← s)) : Sem Next).run P w) := by
  unfold aVal at hl
  simp only [Option.map_eq_some_iff] at hl
  obtain ⟨y, hy, rfl⟩ := hl
  obtain ⟨v, h1, h2⟩ := hs y hy
  exact ⟨_, List.mem_singleton.2 rfl, (VOk.same (P := P) h h1 h2).rrel⟩

theorem aValH_rrel {S : Sh} {A : AH} {w : World} {x : Option (AV × AH)} {l : List AR} (hl : aValH x = some l) {s : Sem Value}
    (hs : ∀ y A', x = some (y, A') → VOk P G S A w s y A') : ∃ r ∈ l, RRel G S A w r ((do pure (.value (← s)) : Sem Next).run P w) := by
  unfold aValH at hl
  simp only [Option.map_eq_some_iff] at hl
  obtain ⟨⟨y, A'⟩, hy, rfl⟩ := hl
  exact ⟨_, List.mem_singleton.2 rfl, (hs y A' hy).rrel⟩

theorem aEff_rrel {S : Sh} {A : AH} {w : World} {x : Option AH} {l : List AR} (hl : aEff x = some l) {s : Sem Unit}
    (hs : ∀ A', x = some A' → ∃ w', s.run P w = .ok () w' ∧ Inv G S A' w' ∧ Fr S A w S A' w') : ∃ r ∈ l, RRel G S A w r ((do s; pure .skip : Sem Next).run P w) := by
  unfold aEff at hl
  simp only [Option.map_eq_some_iff] at hl
  obtain ⟨A', hy, rfl⟩ := hl
  obtain ⟨w', h1, h2, h3⟩ := hs A' hy
  refine ⟨_, List.mem_singleton.2 rfl, ?_⟩
  simp only [Sem.run_bind, h1, Result.andThen_ok, Sem.run_pure]
  exact ⟨S, h2, h3, .top _⟩

theorem ARel.parts {S : Sh} {a : AAct} {b : Act} (h : ARel S a b) : ∀ (l : List (Nat × Operand)), PRel S (l.map fun p => (p.1, a.eval p.2)) (l.map fun p => (p.1, b.eval p.2))
  | [] => .nil
  | _ :: l => .cons _ _ _ _ _ (h.eval _) (h.parts l)

theorem ARel.opt {S : Sh} {a : AAct} {b : Act} (h : ARel S a b) : ∀ (x : Option Operand), ORel S (x.map a.eval) (x.map b.eval)
  | none => .none
  | some _ => .some _ _ (h.eval _)

theorem isTop_false {x : AV} (h : ¬ x.isTop = true) : x.isTop = false := by simpa using h

theorem aOp_exec {mu : Bool} {S : Sh} {A : AH} {w : World} (h : Inv G S A w) {a : AAct} {b : Act} (hab : ARel S a b) {o : Oper} {l : List AR} (hx : aOp P G mu false A a.eval o = some l) :
    ∃ r ∈ l, RRel G S A w r ((execOp b.eval o).run P w) := by
  unfold aOp at hx
  unfold execOp
  split at hx <;> rename_i hop <;> simp only [hop]
  · cases hx; exact ⟨_, List.mem_singleton.2 rfl, S, h, Fr.refl S A w, hab.eval _⟩
  · cases hx; exact ⟨_, List.mem_singleton.2 rfl, S, h, Fr.refl S A w, hab.eval _⟩
  · rename_i c x y
    split at hx
    · rename_i t hc
      cases hx
      have := hab.eval c
      rw [hc] at this
      generalize hbc : b.eval c = bc at this
      cases this
      refine ⟨_, List.mem_singleton.2 rfl, S, h, Fr.refl S A w, ?_⟩
      cases t
      · exact hab.eval _
      · exact hab.eval _
    · cases hx
  · split at hx
    · rename_i x hz
      split at hx <;> cases hx
      rename_i ht
      exact ⟨_, List.mem_singleton.2 rfl, (alloc_ok (P := P) h hz (isTop_false ht)).rrel⟩
    · cases hx
  · split at hx <;> cases hx
    rename_i ht
    exact ⟨_, List.mem_singleton.2 rfl, (box_ok (P := P) h (hab.eval _) (isTop_false ht)).rrel⟩
  · exact aVal_rrel h hx fun y hy => aBuild_ok hy (by simpa [aParts] using hab.parts _) w
  · exact aValH_rrel hx fun y A' hy => aBuildSlice_ok h hy (by simpa [aParts] using hab.parts _)
  · exact aVal_rrel h hx fun y hy => aLoad_ok h (hab.eval _) hy
  · exact aEff_rrel hx fun A' hy => aStore_ok h (hab.eval _) (hab.eval _) hy
  · rename_i x
    have hv := hab.eval x
    split at hx <;> first
      | (cases hx; done)
      | (rename_i he; cases hx; rw [he] at hv; generalize hbv : b.eval x = bv at hv
         refine ⟨_, List.mem_singleton.2 rfl, ?_⟩)
    · cases hv with
      | ptr _ _ c hc => exact ⟨S, h, Fr.refl S A w, .ptr _ _ c hc⟩
    · cases hv with
      | gptr => exact ⟨S, h, Fr.refl S A w, .gptr _ _⟩
    · cases hv with
      | iptr _ a o hc => exact ⟨S, h, Fr.refl S A w, .iptr _ a o hc⟩
    · cases hv with
      | iface _ _ v hv => exact ⟨S, h, Fr.refl S A w, .iface _ _ v hv⟩
    · cases hv with
      | fn _ g _ _ us vs hf h1 h2 =>
        cases hf
        exact ⟨S, h, Fr.refl S A w, .fn _ _ _ _ us vs rfl h1 h2⟩
    · cases hv with
      | fn _ g _ _ us vs hf h1 h2 =>
        obtain ⟨c, hc, rfl⟩ := hf
        exact ⟨S, h, Fr.refl S A w, .fn _ _ _ _ us vs ⟨c, hc, rfl⟩ h1 h2⟩
  · exact aVal_rrel h hx fun y hy => aBin_ok h hy (hab.eval _).weak (hab.eval _).weak
  · exact aVal_rrel h hx fun y hy => aUn_ok hy (hab.eval _) w
  · split at hx
    · rename_i v hv
      cases hx
      exact ⟨_, List.mem_singleton.2 rfl, (aToBytes_ok h hv (hab.eval _)).rrel⟩
    · exact aVal_rrel h hx fun y hy => aConvert_ok h hy (hab.eval _).weak
  · exact aVal_rrel h hx fun y hy => aIface_ok hy (hab.eval _) w
  · rename_i fn first cap
    split at hx
    · cases hx
    · rename_i g hne
      cases hx
      refine ⟨_, List.mem_singleton.2 rfl, S, h, Fr.refl S A w, ?_⟩
      have e1 : (first.map b.eval) = ⟨first.toList.map b.eval⟩ := by apply Array.ext'; simp
      have e2 : (cap.map b.eval) = ⟨cap.toList.map b.eval⟩ := by apply Array.ext'; simp
      rw [e1, e2]
      refine .fn _ _ _ _ _ _ ?_ (hab.evals _) (hab.evals _)
      cases fn <;> first | rfl | exact absurd rfl (hne _)
  · cases hx
    exact ⟨_, List.mem_singleton.2 rfl, (makeMap_ok (P := P) h).rrel⟩
  · exact aValH_rrel hx fun y A' hy => aMake_ok h hy (hab.eval _) (hab.eval _)
  · exact aVal_rrel h hx fun y hy => aSliceW_ok hy (hab.eval _) (hab.opt _) (hab.opt _) (hab.opt _) w
  · exact aVal_rrel h hx fun y hy => aFieldAddr_ok hy (hab.eval _) w
  · exact aVal_rrel h hx fun y hy => aField_ok hy (hab.eval _) w
  · exact aVal_rrel h hx fun y hy => aIndexAddr_ok hy (hab.eval _).weak (hab.eval _) w
  · exact aVal_rrel h hx fun y hy => aIndex_ok hy (hab.eval _).weak (hab.eval _) w
  · exact aVal_rrel h hx fun y hy => aLookup_ok h hy (hab.eval _) (hab.eval _)
  · exact aEff_rrel hx fun A' hy => aMapUpdate_ok h hy (hab.eval _) (hab.eval _) (hab.eval _)
  · exact aEff_rrel hx fun A' hy => aMapUpdate_ok h hy (hab.eval _) (hab.eval _) (hab.eval _)
  · exact aValH_rrel hx fun y A' hy => aRange_ok h hy (hab.eval _)
  · simp only [Option.map_eq_some_iff] at hx
    obtain ⟨outs, ho, rfl⟩ := hx
    obtain ⟨y, A', hm, hv⟩ := aNext_ok (P := P) (ty := o.type) h ho (hab.eval _)
    exact ⟨_, List.mem_map.2 ⟨(y, A'), hm, rfl⟩, hv.rrel⟩
  · exact aVal_rrel h hx fun y hy => aEntry_ok h hy (hab.eval _)
  · exact aVal_rrel h hx fun y hy => aAssert_ok hy (hab.eval _) w
  · exact aVal_rrel h hx fun y hy => aExtract_ok hy (hab.eval _) w
  · simp only [Option.map_eq_some_iff] at hx
    obtain ⟨r, hr, rfl⟩ := hx
    exact ⟨_, List.mem_singleton.2 rfl, aCall_ok h hab hr⟩
  · rename_i c
    simp only [Bool.false_eq_true, if_false, Option.map_eq_some_iff] at hx
    obtain ⟨d, hd, rfl⟩ := hx
    refine ⟨_, List.mem_singleton.2 rfl, ?_⟩
    unfold aDefer at hd
    split at hd
    · rename_i f hcal
      split at hd
      · rename_i fn first cap hev
        cases hd
        have hv := hab.eval f
        rw [hev] at hv
        generalize hbv : b.eval f = bv at hv
        cases hv with
        | fn _ g _ _ us vs hf hfst hcap =>
        have hmap : (c.args.map b.eval) = ⟨c.args.toList.map b.eval⟩ := by apply Array.ext'; simp
        have hargs := hab.evals c.args.toList
        have e : (do pure (.defer (← resolve b.eval c o.type)) : Sem Next).run P w = .ok (.defer ⟨.fn g ⟨vs⟩, ⟨us ++ c.args.toList.map b.eval⟩⟩) w := by
          simp only [resolve, hcal, Deferred.ofValue, hbv, hmap, pure_bind]
          simp
        rw [e]
        exact ⟨S, h, Fr.refl S A w, .fn _ _ _ _ _ _ hf (hfst.append hargs) hcap⟩
      · cases hd
    · cases hd
  · rename_i x
    have hv := hab.eval x
    split at hx
    · rename_i t v he
      cases hx
      rw [he] at hv
      generalize hbv : b.eval x = bv at hv
      cases hv with
      | iface _ _ u hu =>
      refine ⟨_, List.mem_singleton.2 rfl, ?_⟩
      have e : (do pure (.value (← Instr.panic (.iface t u))) : Sem Next).run P w = .halt (.panic (.iface t u)) w := by
        simp [Instr.panic, goPanic]
      rw [e]
      exact ⟨S, h, Fr.refl S A w, .iface _ _ u hu⟩
    · cases hx
  · cases hx

end
end Go.Am
