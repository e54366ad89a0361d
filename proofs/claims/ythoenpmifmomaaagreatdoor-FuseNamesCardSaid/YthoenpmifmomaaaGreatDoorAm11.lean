/-
  The abstract machine's operations: ranging over maps, assertions, methods, each held against the model's. Conditions: none.
-/
import Derived.Test.YthoenpmifmomaaaGreatDoorAm10
namespace Go.Am
open Go

section ops
variable (P : Program) (G : Gl)

theorem makeMap_ok {P : Program} {G : Gl} {S : Sh} {A : AH} {w : World} (h : Inv G S A w) {t : TypeId} : VOk P G S A w (Instr.makeMap t none) (.map A.blks.length) (A.push (.map [] 0)) := by
  obtain ⟨h1, h2⟩ := h.push (x := .map [] 0) (o := .map ⟨[]⟩ 0) (by simp) (.map [] 0 [] .nil)
  exact ⟨.map (some w.heap.size), _, _, by simp [Instr.makeMap], h1, h2, .map _ _ (by simp [Sh.at])⟩

def aRange (A : AH) (t : TypeId) (m : AV) : Option (AV × AH) :=
  match P.underlying t, m with
  | some (.map _ _), .nilm => some (.ptr A.blks.length 0, A.push (.iter none 0 [] 0))
  | some (.map _ _), .map b =>
    match A.blks[b]? with
    | some (.map _ clock) => some (.ptr A.blks.length 0, A.push (.iter (some b) clock [] clock))
    | _ => none
  | _, _ => none

variable {P G}
theorem aRange_ok {S : Sh} {A A' : AH} {w : World} (h : Inv G S A w) {t : TypeId} {m y : AV} {u : Value} (hx : aRange P A t m = some (y, A')) (hu : VRel S m u) : VOk P G S A w (Instr.range t u) y A' := by
  unfold aRange at hx
  split at hx
  · rename_i hd
    cases hx; cases hu
    obtain ⟨h1, h2⟩ := h.push (x := .iter none 0 [] 0) (o := .mapIter none 0 ⟨[]⟩ 0) (by simp) (.iterNil 0 [] 0)
    exact ⟨.pointer (some ⟨w.heap.size, 0, none⟩), _, _, by simp [Instr.range, run_underlying hd], h1, h2, .ptr _ _ _ (by simp [Sh.at])⟩
  · rename_i b hd
    cases hu with
    | map _ c hc =>
    split at hx
    · rename_i es clock hb
      cases hx
      obtain ⟨c', o, s1, s2, s3⟩ := h.blk b _ hb (by simp)
      obtain rfl := Option.some.inj (s1.symm.trans hc)
      cases s3 with
      | map _ _ ms hm =>
      have hg := run_getObj (P := P) s2 (by simp)
      have hlt := (List.getElem?_eq_some_iff.1 hb).1
      obtain ⟨h1, h2⟩ := h.push (x := .iter (some b) clock [] clock) (o := .mapIter (some c') clock ⟨[]⟩ clock) (by simp) (.iter b c' clock [] clock (by simp only [Sh.at]; rw [if_neg (by omega)]; exact hc))
      exact ⟨.pointer (some ⟨w.heap.size, 0, none⟩), _, _, by simp [Instr.range, run_underlying hd, hg], h1, h2, .ptr _ _ _ (by simp [Sh.at])⟩
    · cases hx
  · cases hx

def aCands (es : List (AV × AV × Nat)) (since : Nat) (seen : List Nat) : List (Option (AV × AV × Nat)) :=
  let left := es.filter fun e => !seen.contains e.2.2
  let old := left.filter fun e => decide (e.2.2 < since)
  let new := left.filter fun e => decide (e.2.2 ≥ since)
  (if old.isEmpty then [none] else []) ++ (old ++ new).map some

/-- A step of a range over a map: whatever comes next. -/
def aNext (A : AH) (it : AV) : Option (List (AV × AH)) :=
  match it with
  | .ptr r 0 =>
    match A.blks[r]? with
    | some (.iter none _ _ _) => some [(.tup [.bool false], A)]
    | some (.iter (some m) since seen last) =>
      match A.blks[m]? with
      | some (.map es clock) =>
        if !seen.isEmpty && !es.isEmpty && es.all (fun e => decide (e.2.2 ≥ last)) then none else
        some ((aCands es since seen).map fun
          | none => (.tup [.bool false], A)
          | some (k, x, n) => (.tup [.bool true, k, x], A.put r (.iter (some m) since (seen ++ [n]) clock)))
      | _ => none
    | _ => none
  | _ => none

theorem MRel.filter {S : Sh} (p : Nat → Bool) : ∀ {es : List (AV × AV × Nat)} {ms : List MapEntry}, MRel S es ms → MRel S (es.filter fun e => p e.2.2) (ms.filter fun e => p e.born)
  | _, _, .nil => .nil
  | _, _, .cons k x n es u v ms h1 h2 h3 => by
    have ih := h3.filter p
    simp only [List.filter_cons]
    cases hp : p n
    · simp; exact ih
    · simp; exact .cons k x n _ u v _ h1 h2 ih

theorem MRel.all {S : Sh} (p : Nat → Bool) : ∀ {es : List (AV × AV × Nat)} {ms : List MapEntry}, MRel S es ms → (es.all fun e => p e.2.2) = (ms.all fun e => p e.born)
  | _, _, .nil => rfl
  | _, _, .cons k x n es u v ms _ _ h3 => by simp only [List.all_cons, h3.all p]

theorem MRel.isEmpty {S : Sh} {es : List (AV × AV × Nat)} {ms : List MapEntry} (h : MRel S es ms) : es.isEmpty = ms.isEmpty := by cases h <;> rfl

theorem MRel.length_eq {S : Sh} {es : List (AV × AV × Nat)} {ms : List MapEntry} (h : MRel S es ms) : es.length = ms.length := h.length

/-- The candidates, one by one. -/
inductive CandRel (S : Sh) : List (Option (AV × AV × Nat)) → List (Option MapEntry) → Prop
  | fin : CandRel S [] []
  | over (xs : List (Option (AV × AV × Nat))) (ys : List (Option MapEntry)) : CandRel S xs ys → CandRel S (none :: xs) (none :: ys)
  | more (k x : AV) (n : Nat) (u v : Value) (xs : List (Option (AV × AV × Nat))) (ys : List (Option MapEntry)) : VRel S k u → VRel S x v → CandRel S xs ys → CandRel S (some (k, x, n) :: xs) (some ⟨u, v, n⟩ :: ys)

theorem CandRel.of_m {S : Sh} : ∀ {es : List (AV × AV × Nat)} {ms : List MapEntry}, MRel S es ms → CandRel S (es.map some) (ms.map some)
  | _, _, .nil => .fin
  | _, _, .cons k x n _ u v _ h1 h2 h3 => .more k x n u v _ _ h1 h2 (CandRel.of_m h3)

theorem CandRel.get {S : Sh} : ∀ {xs : List (Option (AV × AV × Nat))} {ys : List (Option MapEntry)}, CandRel S xs ys → xs.length = ys.length ∧ ∀ (i : Nat) (y : Option MapEntry), ys[i]? = Option.some y →
    (y = Option.none ∧ xs[i]? = Option.some Option.none) ∨ ∃ k x n u v, y = Option.some ⟨u, v, n⟩ ∧ xs[i]? = Option.some (Option.some (k, x, n)) ∧ VRel S k u ∧ VRel S x v
  | _, _, .fin => ⟨rfl, fun i y h => by simp at h⟩
  | _, _, .over xs ys h => by
    obtain ⟨h1, h2⟩ := h.get
    refine ⟨by simp [h1], fun i y hy => ?_⟩
    cases i with
    | zero => simp at hy; exact .inl ⟨hy.symm, rfl⟩
    | succ i => simpa using h2 i y (by simpa using hy)
  | _, _, .more k x n u v xs ys hk hx h => by
    obtain ⟨h1, h2⟩ := h.get
    refine ⟨by simp [h1], fun i y hy => ?_⟩
    cases i with
    | zero => simp at hy; exact .inr ⟨k, x, n, u, v, hy.symm, rfl, hk, hx⟩
    | succ i => simpa using h2 i y (by simpa using hy)

theorem run_next {w : World} {c cm since last clock : Nat} {seen : List Nat} {ms : List MapEntry} {L : List (Option MapEntry)} {ty : TypeId}
    (hg : (getObj c).run P w = .ok (.mapIter (some cm) since ⟨seen⟩ last) w) (hg' : (getObj cm).run P w = .ok (.map ⟨ms⟩ clock) w)
    (hno : ¬ ((!seen.isEmpty && !ms.isEmpty && ms.all (fun e => decide (e.born ≥ last))) = true))
    (hL : ((if ((ms.filter fun e => !seen.contains e.born).filter fun e => decide (e.born < since)).isEmpty then [none] else []) ++
            (((ms.filter fun e => !seen.contains e.born).filter fun e => decide (e.born < since)) ++ ((ms.filter fun e => !seen.contains e.born).filter fun e => decide (e.born ≥ since))).map some : List (Option MapEntry)) = L) :
    (Instr.next (.pointer (some ⟨c, 0, none⟩)) false ty).run P w = ((choose (.mapNext L.length)).run P w).andThen fun i w1 =>
      (match L[i]? with
       | some (some e) => do
         setObj c (.mapIter (some cm) since ⟨seen ++ [e.born]⟩ clock)
         pure (.tuple #[.bool true, e.key, e.val])
       | some none => pure (.tuple #[.bool false])
       | none => stuck "Next: no such candidate" : Sem Value).run P w1 := by
  have hcnd : ¬ ((!(⟨seen⟩ : Array Nat).isEmpty && !(⟨ms⟩ : Array MapEntry).isEmpty && (⟨ms⟩ : Array MapEntry).all (fun e => decide (e.born ≥ last))) = true) := by
    simpa using hno
  have hfil : ∀ (p : MapEntry → Bool) (l : List MapEntry), Array.filter p (⟨l⟩ : Array MapEntry) = ⟨l.filter p⟩ := by intro p l; apply Array.ext'; simp
  have hcon : ∀ n : Nat, (⟨seen⟩ : Array Nat).contains n = seen.contains n := by intro n; simp
  have harr : ((if (Array.filter (fun e => decide (e.born < since)) (Array.filter (fun e => !(⟨seen⟩ : Array Nat).contains e.born) (⟨ms⟩ : Array MapEntry))).isEmpty = true then #[none] else #[]) ++
      Array.map some (Array.filter (fun e => decide (e.born < since)) (Array.filter (fun e => !(⟨seen⟩ : Array Nat).contains e.born) (⟨ms⟩ : Array MapEntry)) ++ Array.filter (fun e => decide (e.born ≥ since)) (Array.filter (fun e => !(⟨seen⟩ : Array Nat).contains e.born) (⟨ms⟩ : Array MapEntry)))) = L.toArray := by
    rw [← hL]
    simp only [hfil, hcon]
    have he : ∀ l : List MapEntry, (⟨l⟩ : Array MapEntry).isEmpty = l.isEmpty := by intro l; cases l <;> rfl
    rw [he]
    split
    · apply Array.ext'; simp
    · apply Array.ext'; simp
  simp only [Instr.next, Sem.run_bind, hg, hg', Result.andThen_ok]
  rw [if_neg hcnd]
  simp only [Sem.run_bind]
  rw [harr]
  have hpush : ∀ n : Nat, (⟨seen⟩ : Array Nat).push n = ⟨seen ++ [n]⟩ := by intro n; apply Array.ext'; simp
  simp only [List.size_toArray, List.getElem?_toArray, hpush]
  congr 1

theorem aNext_ok {S : Sh} {A : AH} {w : World} (h : Inv G S A w) {it : AV} {u : Value} {outs : List (AV × AH)} {ty : TypeId} (hx : aNext A it = some outs) (hu : VRel S it u) :
    ∃ y A', (y, A') ∈ outs ∧ VOk P G S A w (Instr.next u false ty) y A' := by
  unfold aNext at hx
  split at hx
  · rename_i r
    cases hu with
    | ptr _ _ c hc =>
    split at hx
    · rename_i a b d hr
      cases hx
      obtain ⟨c', o, s1, s2, s3⟩ := h.blk r _ hr (by simp)
      obtain rfl := Option.some.inj (s1.symm.trans hc)
      cases s3
      have hg := run_getObj (P := P) s2 (by simp)
      refine ⟨_, _, List.mem_singleton.2 rfl, VOk.same h (v := .tuple #[.bool false]) ?_ (.tup _ _ (.cons _ _ _ _ (.bool _) .nil))⟩
      simp [Instr.next, hg]
    · rename_i m since seen last hr
      obtain ⟨c', o, s1, s2, s3⟩ := h.blk r _ hr (by simp)
      obtain rfl := Option.some.inj (s1.symm.trans hc)
      cases s3 with
      | iter _ cm _ _ _ hcm =>
      have hg := run_getObj (P := P) s2 (by simp)
      split at hx
      · rename_i es clock hm
        split at hx <;> cases hx
        rename_i hno
        obtain ⟨cm', o', t1, t2, t3⟩ := h.blk m _ hm (by simp)
        obtain rfl := Option.some.inj (t1.symm.trans hcm)
        cases t3 with
        | map _ _ ms hms =>
        have hg' := run_getObj (P := P) t2 (by simp)
        have hleft := hms.filter fun n => !seen.contains n
        have hold := hleft.filter fun n => decide (n < since)
        have hnew := hleft.filter fun n => decide (n ≥ since)
        have hcand : CandRel S (aCands es since seen) ((if ((ms.filter fun e => !seen.contains e.born).filter fun e => decide (e.born < since)).isEmpty then [none] else []) ++
            (((ms.filter fun e => !seen.contains e.born).filter fun e => decide (e.born < since)) ++ ((ms.filter fun e => !seen.contains e.born).filter fun e => decide (e.born ≥ since))).map some) := by
          unfold aCands
          simp only
          rw [hold.isEmpty]
          split
          · exact .over _ _ (CandRel.of_m (hold.append hnew))
          · exact CandRel.of_m (hold.append hnew)
        have hno' : ¬ ((!seen.isEmpty && !ms.isEmpty && ms.all (fun e => decide (e.born ≥ last))) = true) := by
          rw [← hms.isEmpty, ← hms.all (fun n => decide (n ≥ last))]; exact hno
        generalize hL : ((if ((ms.filter fun e => !seen.contains e.born).filter fun e => decide (e.born < since)).isEmpty then [none] else []) ++
            (((ms.filter fun e => !seen.contains e.born).filter fun e => decide (e.born < since)) ++ ((ms.filter fun e => !seen.contains e.born).filter fun e => decide (e.born ≥ since))).map some : List (Option MapEntry)) = L at hcand
        have hrun := run_next (P := P) (ty := ty) hg hg' hno' hL
        have hLlen : 0 < L.length := by
          rw [← hL]
          cases ho : ((ms.filter fun e => !seen.contains e.born).filter fun e => decide (e.born < since)) with
          | nil => simp
          | cons e es' => simp
        obtain ⟨hlen, hget⟩ := hcand.get
        have hch : ∃ i, i < L.length ∧ ∃ k, (choose (.mapNext L.length)).run P w = .ok i { w with drawn := k } := by
          simp only [run_choose]
          split
          · exact ⟨0, hLlen, w.drawn, rfl⟩
          · exact ⟨_, Nat.mod_lt _ hLlen, w.drawn + 1, rfl⟩
        obtain ⟨i, hi, k, hck⟩ := hch
        rw [hck] at hrun
        simp only [Result.andThen_ok] at hrun
        obtain ⟨d1, d2⟩ := h.drew k
        have hLi : L[i]? = some L[i] := List.getElem?_eq_getElem hi
        rw [hLi] at hrun
        rcases hget i L[i] hLi with ⟨e1, e2⟩ | ⟨kk, xx, n, u', v', e1, e2, e3, e4⟩
        · rw [e1] at hrun
          refine ⟨_, _, List.mem_map.2 ⟨none, List.mem_of_getElem? e2, rfl⟩, _, _, S, hrun, d1, d2, .tup _ _ (.cons _ _ _ _ (.bool _) .nil)⟩
        · rw [e1] at hrun
          have s2' : ({ w with drawn := k } : World).heap[c']? = some (.mapIter (some cm') since ⟨seen⟩ last) := s2
          obtain ⟨i1, i2⟩ := setObj_put d1 hr (by simp) hc s2' (x' := .iter (some m) since (seen ++ [n]) clock) (by simp) (.iter m cm' since (seen ++ [n]) clock hcm) (by simp)
          refine ⟨_, _, List.mem_map.2 ⟨some (kk, xx, n), List.mem_of_getElem? e2, rfl⟩, _, _, S, ?_, i1, d2.trans i2, .tup _ _ (.cons _ _ _ _ (.bool true) (.cons _ _ _ _ e3 (.cons _ _ _ _ e4 .nil)))⟩
          rw [hrun]
          have hst := run_setObj (P := P) (o' := .mapIter (some cm') since ⟨seen ++ [n]⟩ clock) s2' (by simp)
          simp only [Sem.run_bind, hst, Result.andThen_ok, Sem.run_pure]
      · cases hx
    · cases hx
  · cases hx

def aEntry (A : AH) (it : AV) : Option AV :=
  match it with
  | .ptr r 0 =>
    match A.blks[r]? with
    | some (.iter (some m) _ seen stepped) =>
      match A.blks[m]?, seen.getLast? with
      | some (.map es clock), some stamp =>
        if clock = stepped then
          match es.find? (fun e => e.2.2 == stamp) with
          | some (k, x, _) => some (.tup [k, x])
          | none => none
        else none
      | _, _ => none
    | _ => none
  | _ => none

theorem MRel.find {S : Sh} (stamp : Nat) : ∀ {es : List (AV × AV × Nat)} {ms : List MapEntry}, MRel S es ms → ∀ (k x : AV) (n : Nat), es.find? (fun e => e.2.2 == stamp) = some (k, x, n) →
    ∃ u v, ms.find? (fun e => e.born == stamp) = some ⟨u, v, n⟩ ∧ VRel S k u ∧ VRel S x v
  | _, _, .nil, k, x, n, h => by simp at h
  | _, _, .cons k' x' n' es u v ms h1 h2 h3, k, x, n, h => by
    simp only [List.find?_cons] at h ⊢
    by_cases hn : (n' == stamp) = true
    · simp only [hn] at h ⊢
      cases h
      exact ⟨u, v, rfl, h1, h2⟩
    · have hn : (n' == stamp) = false := by simpa using hn
      simp only [hn] at h ⊢
      exact h3.find stamp k x n h

theorem aEntry_ok {S : Sh} {A : AH} {w : World} (h : Inv G S A w) {it y : AV} {u : Value} (hx : aEntry A it = some y) (hu : VRel S it u) :
    ∃ v, (Instr.entry u).run P w = .ok v w ∧ VRel S y v := by
  unfold aEntry at hx
  split at hx
  · rename_i r
    cases hu with
    | ptr _ _ c hc =>
    split at hx
    · rename_i m since seen stepped hr
      split at hx
      · rename_i es clock stamp hm hstamp
        split at hx
        · rename_i hclk
          split at hx
          · rename_i k x n hf
            cases hx
            obtain ⟨c', o, s1, s2, s3⟩ := h.blk r _ hr (by simp)
            obtain rfl := Option.some.inj (s1.symm.trans hc)
            cases s3 with
            | iter _ cm _ _ _ hcm =>
            obtain ⟨cm', o', t1, t2, t3⟩ := h.blk m _ hm (by simp)
            obtain rfl := Option.some.inj (t1.symm.trans hcm)
            cases t3 with
            | map _ _ ms hms =>
            have hg := run_getObj (P := P) s2 (by simp)
            have hg' := run_getObj (P := P) t2 (by simp)
            obtain ⟨u', v', f1, f2, f3⟩ := hms.find stamp k x n hf
            refine ⟨_, ?_, tup2 f2 f3⟩
            have hb : (⟨seen⟩ : Array Nat).back? = some stamp := by
              rw [← hstamp]; simp
            simp only [Instr.entry, Sem.run_bind, hg, Result.andThen_ok, hb, hg', hclk]
            simp [f1]
          · cases hx
        · cases hx
      · cases hx
    · cases hx
  · cases hx

variable (P) in
def aAssert (x : AV) (_xType asserted : TypeId) (cOk : Bool) : Option AV :=
  match P.underlying asserted with
  | some (.interface want) =>
    match x with
    | .iface t v =>
      match P.info? t with
      | some i => if (Instr.missingMethod want i.methods).isNone then some (if cOk then .tup [.iface t v, .bool true] else .iface t v) else none
      | none => none
    | _ => none
  | some _ =>
    match x with
    | .nili => if cOk then (tZero P asserted).map fun z => .tup [z, .bool false] else none
    | .iface t v => if t = asserted then some (if cOk then .tup [v, .bool true] else v) else if cOk then (tZero P asserted).map fun z => .tup [z, .bool false] else none
    | _ => none
  | none => none

theorem aAssert_ok {S : Sh} {x y : AV} {xt t : TypeId} {cOk : Bool} {u : Value} (hx : aAssert P x xt t cOk = some y) (hu : VRel S x u) (w : World) :
    ∃ v, (Instr.typeAssert u xt t cOk).run P w = .ok v w ∧ VRel S y v := by
  unfold aAssert at hx
  split at hx
  · rename_i want hd
    split at hx
    · rename_i t' v
      cases hu with
      | iface _ _ v' hv =>
      split at hx
      · rename_i i hi
        split at hx <;> cases hx
        rename_i hmm
        have hmm : Instr.missingMethod want i.methods = none := by simpa using hmm
        cases cOk with
        | true => exact ⟨_, by simp [Instr.typeAssert, run_underlying hd, run_typeInfo hi, hmm], tup2 (.iface _ _ _ hv) (.bool _)⟩
        | false => exact ⟨_, by simp [Instr.typeAssert, run_underlying hd, run_typeInfo hi, hmm], .iface _ _ _ hv⟩
      · cases hx
    · cases hx
  · rename_i d hne hd
    have hd' : ∀ ms, d ≠ .interface ms := fun ms e => hne ms e
    split at hx
    · cases hu
      split at hx
      · rename_i hc
        subst hc
        simp only [Option.map_eq_some_iff] at hx
        obtain ⟨z, hz, rfl⟩ := hx
        obtain ⟨zv, hz1, hz2⟩ := run_zeroValue hz w
        have hzr := ofVs_rel S zv
        rw [← hz2] at hzr
        refine ⟨.tuple #[zv, .bool false], ?_, tup2 hzr (.bool _)⟩
        simp only [Instr.typeAssert, Sem.run_bind, run_underlying hd, Result.andThen_ok]
        cases d <;> first | (exact absurd rfl (hd' _)) | simp [hz1]
      · cases hx
    · rename_i t' v
      cases hu with
      | iface _ _ v' hv =>
      split at hx
      · rename_i ht
        subst ht
        cases hx
        cases cOk with
        | true =>
          refine ⟨.tuple #[v', .bool true], ?_, tup2 hv (.bool _)⟩
          simp only [Instr.typeAssert, Sem.run_bind, run_underlying hd, Result.andThen_ok]
          cases d <;> first | (exact absurd rfl (hd' _)) | simp
        | false =>
          refine ⟨v', ?_, hv⟩
          simp only [Instr.typeAssert, Sem.run_bind, run_underlying hd, Result.andThen_ok]
          cases d <;> first | (exact absurd rfl (hd' _)) | simp
      · rename_i ht
        split at hx
        · rename_i hc
          subst hc
          simp only [Option.map_eq_some_iff] at hx
          obtain ⟨z, hz, rfl⟩ := hx
          obtain ⟨zv, hz1, hz2⟩ := run_zeroValue hz w
          have hzr := ofVs_rel S zv
          rw [← hz2] at hzr
          refine ⟨.tuple #[zv, .bool false], ?_, tup2 hzr (.bool _)⟩
          simp only [Instr.typeAssert, Sem.run_bind, run_underlying hd, Result.andThen_ok]
          cases d <;> first | (exact absurd rfl (hd' _)) | simp [ht, hz1]
        · cases hx
    · cases hx
  · cases hx

/-! ### Methods -/
inductive APl where
  | val (v : AV)
  | var (a : AV)

variable (P G) in
def APl.get (A : AH) (t : TypeId) : APl → Option AV
  | .val v => some v
  | .var a => aLoad P G A t a

variable (P G) in
def aFollow (A : AH) : List FieldStep → TypeId → APl → Option (TypeId × APl)
  | [], t, x => some (t, x)
  | s :: rest, t, x =>
    match P.underlying s.struct with
    | some (.struct fields) =>
      match fields[s.index]? with
      | some f =>
        if s.deref then
          match x.get P G A t with
          | some p => match aFieldAddr P s.struct p s.index with
            | some a => aFollow A rest f.type (.var a)
            | none => none
          | none => none
        else
          match x with
          | .var a => match aFieldAddr P s.struct a s.index with
            | some a' => aFollow A rest f.type (.var a')
            | none => none
          | .val (.agg cs) => match aPart P f.type cs f.offset with
            | some v => aFollow A rest f.type (.val v)
            | none => none
          | .val _ => none
      | none => none
    | _ => none

variable (P G) in
def aRecv (A : AH) (xt : TypeId) (x : APl) (pr : Bool) : Option AV :=
  match P.underlying xt with
  | some (.pointer _) => if pr then x.get P G A xt else none
  | some _ =>
    if pr then (match x with | .var a => some a | .val _ => none) else x.get P G A xt
  | none => none

variable (P G) in
def aMethod (A : AH) : Nat → TypeId → AV → String → Option (FuncId × AV)
  | 0, _, _, _ => none
  | n + 1, t, v, name =>
    match P.info? t with
    | some i =>
      match i.methods.find? (·.name == name) with
      | some m =>
        match aFollow P G A m.path.toList t (.val v) with
        | some (xt, x) =>
          match m.func with
          | none =>
            match x.get P G A xt with
            | some (.iface t' v') => aMethod A n t' v' name
            | _ => none
          | some (f, pr) => (aRecv P G A xt x pr).map fun r => (f, r)
        | none => none
      | none => none
    | none => none

/-- A place: a value, or a variable behind a pointer. -/
def PlRel (S : Sh) : APl → Place → Prop
  | .val v, .val u => VRel S v u
  | .var a, .var b => VRel S a (.pointer (some b))
  | _, _ => False

theorem APl.get_ok {S : Sh} {A : AH} {w : World} (h : Inv G S A w) {t : TypeId} {x : APl} {p : Place} {y : AV} (hx : x.get P G A t = some y) (hp : PlRel S x p) : ∃ v, (p.get t).run P w = .ok v w ∧ VRel S y v := by
  cases x with
  | val v =>
    cases p with
    | val u => simp only [APl.get, Option.some.injEq] at hx; subst hx; exact ⟨u, by simp [Place.get], hp⟩
    | var b => cases hp
  | var a =>
    cases p with
    | val u => cases hp
    | var b =>
      simp only [APl.get] at hx
      obtain ⟨v, h1, h2⟩ := aLoad_ok h hp hx
      exact ⟨v, by simpa [Place.get, Instr.loadAt, Instr.sureAddr] using h1, h2⟩

theorem fieldAt_place {S : Sh} {t : TypeId} {fields : Array Field} {f : Field} {i : Nat} {a y : AV} {b : Addr} (hd : P.underlying t = some (.struct fields)) (hf : fields[i]? = some f) (hx : aFieldAddr P t a i = some y) (ha : VRel S a (.pointer (some b))) (w : World) :
    ∃ b', (fieldPlace b f).run P w = .ok b' w ∧ VRel S y (.pointer (some b')) := by
  obtain ⟨v, h1, h2⟩ := aFieldAddr_ok hx ha w
  simp only [Instr.fieldAt, Sem.run_bind, run_underlying hd, Result.andThen_ok, hf, Instr.sureAddr, Sem.run_pure] at h1
  cases hr : (fieldPlace b f).run P w with
  | ok b' w' =>
    rw [hr] at h1
    simp only [Result.andThen_ok, Result.ok.injEq] at h1
    obtain ⟨rfl, rfl⟩ := h1
    exact ⟨b', rfl, h2⟩
  | halt e w' => rw [hr] at h1; cases h1

theorem aFollow_ok {S : Sh} {A : AH} {w : World} (h : Inv G S A w) : ∀ (steps : List FieldStep) (t : TypeId) (x : APl) (p : Place) (r : TypeId × APl), aFollow P G A steps t x = some r → PlRel S x p →
    ∃ q, (follow steps t p).run P w = .ok (r.1, q) w ∧ PlRel S r.2 q
  | [], t, x, p, r, hx, hp => by simp [aFollow] at hx; subst hx; exact ⟨p, by simp [follow], hp⟩
  | s :: rest, t, x, p, r, hx, hp => by
    simp only [aFollow] at hx
    split at hx
    · rename_i fields hd
      split at hx
      · rename_i f hf
        split at hx
        · rename_i hdr
          split at hx
          · rename_i ptr hptr
            split at hx
            · rename_i a ha
              obtain ⟨v, g1, g2⟩ := APl.get_ok h hptr hp
              have hv : ∃ b, v = .pointer (some b) := by
                unfold aFieldAddr at ha
                rw [hd] at ha
                simp only [hf] at ha
                split at ha
                · split at ha <;> first | cases ha | skip
                  · cases g2; exact ⟨_, rfl⟩
                  · cases g2; exact ⟨_, rfl⟩
                  · cases g2; exact ⟨_, rfl⟩
                · cases ha
              obtain ⟨b, rfl⟩ := hv
              obtain ⟨b', f1, f2⟩ := fieldAt_place hd hf ha g2 w
              obtain ⟨q, r1, r2⟩ := aFollow_ok h rest f.type (.var a) (.var b') r hx f2
              refine ⟨q, ?_, r2⟩
              simp only [follow, Sem.run_bind, run_underlying hd, Result.andThen_ok, hf, hdr, if_true, g1, asAddr, Sem.run_pure, f1, r1]
            · cases hx
          · cases hx
        · rename_i hdr
          split at hx
          · rename_i a
            split at hx
            · rename_i a' ha
              cases p with
              | val u => cases hp
              | var b =>
                obtain ⟨b', f1, f2⟩ := fieldAt_place hd hf ha hp w
                obtain ⟨q, r1, r2⟩ := aFollow_ok h rest f.type (.var a') (.var b') r hx f2
                refine ⟨q, ?_, r2⟩
                simp [follow, run_underlying hd, hf, hdr, f1, r1]
            · cases hx
          · rename_i cs
            split at hx
            · rename_i v hv
              cases p with
              | var b => cases hp
              | val u =>
                cases hp with
                | agg _ vs hl =>
                obtain ⟨v', f1, f2⟩ := aPart_ok hl hv w
                obtain ⟨q, r1, r2⟩ := aFollow_ok h rest f.type (.val v) (.val v') r hx f2
                refine ⟨q, ?_, r2⟩
                simp [follow, run_underlying hd, hf, hdr, f1, r1]
            · cases hx
          · cases hx
      · cases hx
    · cases hx

theorem aRecv_ok {S : Sh} {A : AH} {w : World} (h : Inv G S A w) {xt : TypeId} {x : APl} {p : Place} {pr : Bool} {y : AV} {wr : Option String} (hx : aRecv P G A xt x pr = some y) (hp : PlRel S x p) :
    ∃ v, (receiverAt xt p pr wr).run P w = .ok v w ∧ VRel S y v := by
  unfold aRecv at hx
  split at hx
  · rename_i e hd
    split at hx
    · rename_i hpr; subst hpr
      obtain ⟨v, g1, g2⟩ := APl.get_ok h hx hp
      exact ⟨v, by simp [receiverAt, run_underlying hd, g1], g2⟩
    · cases hx
  · rename_i d hne hd
    have hd' : ∀ e, d ≠ .pointer e := fun e he => hne e he
    split at hx
    · rename_i hpr; subst hpr
      split at hx
      · rename_i a
        cases hx
        cases p with
        | val u => cases hp
        | var b =>
          refine ⟨_, ?_, hp⟩
          simp only [receiverAt, Sem.run_bind, run_underlying hd, Result.andThen_ok]
          cases d <;> first | (exact absurd rfl (hd' _)) | rfl
      · cases hx
    · rename_i hpr
      have hpr : pr = false := by simpa using hpr
      subst hpr
      obtain ⟨v, g1, g2⟩ := APl.get_ok h hx hp
      refine ⟨v, ?_, g2⟩
      simp only [receiverAt, Sem.run_bind, run_underlying hd, Result.andThen_ok]
      cases d <;> first | (exact absurd rfl (hd' _)) | exact g1
  · cases hx

theorem aMethod_ok {S : Sh} {A : AH} {w : World} (h : Inv G S A w) : ∀ (n : Nat) (t : TypeId) (v : AV) (u : Value) (name : String) (f : FuncId) (y : AV), aMethod P G A n t v name = some (f, y) → VRel S v u →
    ∃ r, (method n t u name).run P w = .ok (f, r) w ∧ VRel S y r
  | 0, t, v, u, name, f, y, hx, _ => by simp [aMethod] at hx
  | n + 1, t, v, u, name, f, y, hx, hu => by
    simp only [aMethod] at hx
    split at hx
    · rename_i i hi
      split at hx
      · rename_i m hm
        split at hx
        · rename_i xt x hfol
          obtain ⟨q, r1, r2⟩ := aFollow_ok h m.path.toList t (.val v) (.val u) _ hfol hu
          split at hx
          · rename_i hfn
            split at hx
            · rename_i t' v' hget
              obtain ⟨u', g1, g2⟩ := APl.get_ok h hget r2
              cases g2 with
              | iface _ _ u'' hv =>
              obtain ⟨r, s1, s2⟩ := aMethod_ok h n t' v' u'' name f y hx hv
              refine ⟨r, ?_, s2⟩
              simp [method, run_typeInfo hi, hm, r1, hfn, g1, s1]
            · cases hx
          · rename_i f' pr hfn
            simp only [Option.map_eq_some_iff] at hx
            obtain ⟨z, hz, hzz⟩ := hx
            cases hzz
            obtain ⟨v', g1, g2⟩ := aRecv_ok (wr := if m.path.isEmpty then some ((name.splitOn ".").getLastD name) else none) h hz r2
            refine ⟨v', ?_, g2⟩
            simp only [method, Sem.run_bind, run_typeInfo hi, Result.andThen_ok, hm, r1, hfn, g1, Sem.run_pure]
        · cases hx
      · cases hx
    · cases hx

end ops
end Go.Am
