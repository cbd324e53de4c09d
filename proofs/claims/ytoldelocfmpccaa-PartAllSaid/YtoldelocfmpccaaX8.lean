/-
  Words, plain models, laws and walks that the claims of this layer share (joined by shake.py). No condition.
-/
import Derived.WideKeyEntry
import Derived.Test.YtoldelocfmpccaaX7
set_option linter.unusedSimpArgs false
set_option linter.unusedVariables false
namespace Go.Proofs.Ytoldelocfmpccaa
open Go.RowKit
theorem WA (a b : QZ) (w : World) : (Op.equal 26 (QH a) (QH b)).run Try.prog w = .ok (a == b) w := by
 have h := Uy a b w;unfold binOp at h;simp only [Sem.run_bind, Sem.run_pure] at h;cases hr : (Op.equal 26 (QH a) (QH b)).run Try.prog w with
 | ok c w' =>
  rw [hr] at h;simp [Result.andThen] at h;rw [h.1, h.2]
 | _ => rw [hr] at h; simp [Result.andThen] at h
theorem WX (em : Bool) (n : Int) (w : World) : (Instr.checkKey em 9999 3 (.int .i64 n)).run Try.prog w = .ok () w := by
 show (Instr.checkKey em (9998 + 1) 3 (.int .i64 n)).run Try.prog w = .ok () w;unfold Instr.checkKey;simp [go_sem, Try.underlying3]
theorem J6 (em : Bool) (a : QZ) (w : World) : (Instr.checkKey em 10000 26 (QH a)).run Try.prog w = .ok () w := by
 show (Instr.checkKey em (9999 + 1) 26 (QH a)).run Try.prog w = .ok () w;unfold Instr.checkKey;simp [go_sem, Try.underlying26, WX, Result.andThen]
theorem QaB (a : QZ) : Instr.sameBits 10000 (QH a) (QH a) = true := by
 show Instr.sameBits (9999 + 1) (QH a) (QH a) = true
 have h : ∀ n : Int, Instr.sameBits 9999 (.int .i64 n) (.int .i64 n) = true := fun n => by
  show Instr.sameBits (9998 + 1) (.int .i64 n) (.int .i64 n) = true;simp [Instr.sameBits]
 simp [Instr.sameBits, h]
theorem WI (a : QZ) (w : World) : (Instr.keyThatStays (QH a) (QH a)).run Try.prog w = .ok (QH a) w := by
 unfold Instr.keyThatStays;rw [QaB];simp [go_sem]
def ZO (b : QZ) : List QZ → List MapEntry → Nat → Option (Nat × Value)
 | a :: ks, e :: es, i => if b == a then some (i, e.val) else ZO b ks es (i + 1)
 | _, _, _ => none
theorem Kw (b : QZ) (w : World) : ∀ (ks : List QZ) (es : List MapEntry) (i : Nat), es.map (·.key) = ks.map QH → (Instr.findAsking 26 (QH b) es i).run Try.prog w = .ok (ZO b ks es i) w
 | [], [], i, _ => by simp [Instr.findAsking, ZO]
 | [], e :: es, i, h => by simp at h
 | a :: ks, [], i, h => by simp at h
 | a :: ks, e :: es, i, h => by
  simp only [List.map_cons, List.cons.injEq] at h;unfold Instr.findAsking ZO;rw [h.1];simp only [Sem.run_bind, WA, Result.andThen_ok];cases hb : b == a
  ·simpa using Kw b w ks es (i + 1) h.2
  ·simp
theorem Qaw (b : QZ) : ∀ (ks : List QZ) (es : List MapEntry) (i : Nat) (fs : Array Field), es.map (·.key) = ks.map QH → Instr.findNow (.struct fs) (QH b) es i = if es = [] then some none else none
 | [], [], i, fs, _ => rfl
 | [], e :: es, i, fs, h => by simp at h
 | a :: ks, [], i, fs, h => by simp at h
 | a :: ks, e :: es, i, fs, h => by simp [Instr.findNow, Instr.sameNow]
theorem UK (b : QZ) (w : World) (ks : List QZ) (es : List MapEntry) (h : es.map (·.key) = ks.map QH) : (Instr.findKey 26 (QH b) es).run Try.prog w = .ok (ZO b ks es 0) w := by
 unfold Instr.findKey;simp only [Sem.run_bind, run_underlying Try.underlying26, Result.andThen_ok];rw [Qaw b ks es 0 _ h];by_cases he : es = []
 ·subst he;have : ks = [] := by cases ks with | nil => rfl | cons a r => simp at h
  subst this;simp [ZO]
 ·rw [if_neg he];exact Kw b w ks es 0 h
open Go.ChangeMaps Go.WideElems
theorem Yn {b : QZ} : ∀ {ks : List QZ} {es : List MapEntry} {i : Nat}, b ∉ ks → ZO b ks es i = none
 | [], _, _, _ => by unfold ZO; rfl
 | a :: ks, [], _, _ => by unfold ZO; rfl
 | a :: ks, e :: es, i, h => by
  unfold ZO;rw [if_neg (by simp only [beq_iff_eq]; intro e; exact h (by simp [e]))];exact Yn fun h' => h (by simp [h'])
theorem JO {b : QZ} : ∀ {ks : List QZ} {es : List MapEntry} {i j : Nat} {e : MapEntry}, (∀ k, k < j → ks[k]? ≠ some b) → ks[j]? = some b → es[j]? = some e → ZO b ks es i = some (i + j, e.val)
 | [], _, _, j, _, _, h, _ => by simp at h
 | a :: ks, [], _, j, _, _, _, h => by simp at h
 | a :: ks, x :: es, i, 0, e, _, h, he => by
  simp at h he;subst h he;unfold ZO;simp
 | a :: ks, x :: es, i, j + 1, e, hf, h, he => by
  unfold ZO;have h0 := hf 0 (by omega);rw [if_neg (by simp only [beq_iff_eq]; intro e'; exact h0 (by simp [e']))];have := JO (b := b) (ks := ks) (es := es) (i := i + 1) (j := j) (e := e) (fun k hk => by have := hf (k + 1) (by omega); simpa using this) (by simpa using h) (by simpa using he);rw [this];congr 2;omega
theorem UX {b : QZ} : ∀ {ks : List QZ}, b ∈ ks → ∃ j : Nat, ks[j]? = some b ∧ ∀ k : Nat, k < j → ks[k]? ≠ some b
 | [], h => by cases h
 | a :: ks, h => by
  by_cases ha : a = b
  ·exact ⟨0, by simp [ha], fun k hk => by omega⟩
  ·have hm : b ∈ ks := by
    rcases List.mem_cons.1 h with h | h
    ·exact absurd h.symm ha
    ·exact h
   obtain ⟨j, hj, hf⟩ := UX hm;refine ⟨j + 1, by simpa using hj, fun k hk => ?_⟩;cases k with
   | zero => simpa using ha
   | succ k => simpa using hf k (by omega)
structure QaR (es : Array MapEntry) (clock : Nat) (ks : List QZ) : Prop where
 keys : es.toList.map (·.key) = ks.map QH
 vals : ∀ x ∈ es.toList, x.val = .int .i64 1
 born : (es.toList.map (·.born)).Nodup
 lt : ∀ x ∈ es.toList, x.born < clock
def ZS : TypeId := 141
theorem Km : Try.prog.underlying ZS = some (.map 26 3) := Try.underlying141
theorem Vb (w : World) : (zeroValue 3).run Try.prog w = .ok (.int .i64 0) w := by simp [go_sem]
section
variable {W : World} {bm : Nat} {es : Array MapEntry} {clock : Nat} {ks : List QZ} {b : QZ}
theorem Z7 (hb : W.heap[bm]? = some (.map es clock)) (hk : es.toList.map (·.key) = ks.map QH) : (Instr.lookup ZS (.map (some bm)) (QH b) false).run Try.prog W = .ok ((ZO b ks es.toList 0).elim (.int .i64 0) (·.2)) W := by
 have h1 := UK b W ks es.toList hk;cases hf : ZO b ks es.toList 0 with
 | none => rw [hf] at h1; simp [Instr.lookup, run_underlying Km, MapKept.run_getObj_map hb, J6, h1, Vb, Result.andThen]
 | some r => rw [hf] at h1; simp [Instr.lookup, run_underlying Km, MapKept.run_getObj_map hb, J6, h1, Result.andThen]
theorem WV (hb : W.heap[bm]? = some (.map es clock)) (hk : es.toList.map (·.key) = ks.map QH) (hn : b ∉ ks) :
  (Instr.mapEntry ZS (.map (some bm)) (QH b)).run Try.prog W = .ok (.tuple #[.int .i64 0, goInt clock]) (setBlock W bm (.map (es.push ⟨QH b, .int .i64 0, clock⟩) (clock + 1))) := by
 have h1 := UK b W ks es.toList hk;rw [Yn hn] at h1;simp [Instr.mapEntry, run_underlying Km, MapKept.run_getObj_map hb, J6, h1, Vb, MapKept.run_setObj_map _ hb, Result.andThen, setBlock]
theorem Wv (hb : W.heap[bm]? = some (.map es clock)) (hk : es.toList.map (·.key) = ks.map QH) {j : Nat} {e0 : MapEntry} (hf : ∀ k, k < j → ks[k]? ≠ some b) (hj : ks[j]? = some b) (he : es.toList[j]? = some e0) :
  (Instr.mapEntry ZS (.map (some bm)) (QH b)).run Try.prog W = .ok (.tuple #[e0.val, goInt e0.born]) (setBlock W bm (.map es clock)) := by
 have h1 := UK b W ks es.toList hk;rw [JO hf hj he, Nat.zero_add] at h1;have he' : es[j]? = some e0 := by simpa using he
 have hkey : e0.key = QH b := by
  have := congrArg (fun l => l[j]?) hk;simp only [List.getElem?_map, he, hj, Option.map_some] at this;exact Option.some.inj this
 have hsame : es.modify j (fun e => { e with key := QH b }) = es := by
  apply Array.ext';rw [Array.toList_modify, modify_eq_set _ _ _ _ he];have : ({ e0 with key := QH b } : MapEntry) = e0 := by rw [← hkey]
  rw [this];exact set_self _ _ _ he
 simp [Instr.mapEntry, run_underlying Km, MapKept.run_getObj_map hb, J6, h1, he', hkey, WI, hsame, MapKept.run_setObj_map _ hb, Result.andThen, setBlock]
theorem WM {v : Value} (hb : W.heap[bm]? = some (.map (es.push ⟨QH b, .int .i64 0, clock⟩) (clock + 1))) (hbo : (es.toList.map (·.born)).Nodup) (hlt : ∀ x ∈ es.toList, x.born < clock) :
  (Instr.entryStore ZS (.map (some bm)) (goInt clock) v).run Try.prog W = .ok () (setBlock W bm (.map (es.push ⟨QH b, v, clock⟩) (clock + 1))) := by
 have hidx : (es.push (⟨QH b, .int .i64 0, clock⟩ : MapEntry)).findIdx? (fun e => ((e.born : Nat) : Int) == ((clock : Nat) : Int)) = some es.size := by
  rw [findIdx_arr]
  have := findIdx_born (l := (es.push ⟨QH b, .int .i64 0, clock⟩).toList) (j := es.size) (e0 := ⟨QH b, .int .i64 0, clock⟩) (by
   simp only [Array.toList_push, List.map_append, List.map_cons, List.map_nil];refine List.nodup_append.2 ⟨hbo, by simp, fun a ha c hc e1 => ?_⟩;obtain ⟨x, hx, rfl⟩ := List.mem_map.1 ha;have := hlt x hx;simp at hc
   omega) (by simp)
  exact this
 have hmod : (es.push (⟨QH b, .int .i64 0, clock⟩ : MapEntry)).modify es.size (fun e => { e with val := v }) = es.push ⟨QH b, v, clock⟩ := by
  apply Array.ext';rw [Array.toList_modify];simp only [Array.toList_push];have := modify_last (fun e : MapEntry => { e with val := v }) ⟨QH b, .int .i64 0, clock⟩ es.toList;simpa using this
 simp [Instr.entryStore, MapKept.run_getObj_map hb, asInt, asIntOf, goInt, hidx, hmod, MapKept.run_setObj_map _ hb, Result.andThen, setBlock]
theorem WS {v : Value} {j : Nat} {e0 : MapEntry} (hb : W.heap[bm]? = some (.map es clock)) (hbo : (es.toList.map (·.born)).Nodup) (he : es.toList[j]? = some e0) :
  (Instr.entryStore ZS (.map (some bm)) (goInt e0.born) v).run Try.prog W = .ok () (setBlock W bm (.map (es.modify j fun e => { e with val := v }) clock)) := by
 have hidx : es.findIdx? (fun e => ((e.born : Nat) : Int) == ((e0.born : Nat) : Int)) = some j := by
  rw [findIdx_arr];exact findIdx_born hbo he
 simp [Instr.entryStore, MapKept.run_getObj_map hb, asInt, asIntOf, goInt, hidx, MapKept.run_setObj_map _ hb, Result.andThen, setBlock]
structure Kq (es : Array MapEntry) (clock : Nat) (ks : List QZ) (b : QZ) (v0 : Int) (es1 es2 : Array MapEntry) (c1 st : Nat) : Prop where
 look0 : ∀ (W : World) (bm : Nat), W.heap[bm]? = some (.map es clock) → (Instr.lookup ZS (.map (some bm)) (QH b) false).run Try.prog W = .ok (.int .i64 v0) W
 look1 : ∀ (W : World) (bm : Nat), W.heap[bm]? = some (.map es1 c1) → (Instr.lookup ZS (.map (some bm)) (QH b) false).run Try.prog W = .ok (.int .i64 v0) W
 entry : ∀ (W : World) (bm : Nat), W.heap[bm]? = some (.map es clock) → (Instr.mapEntry ZS (.map (some bm)) (QH b)).run Try.prog W = .ok (.tuple #[.int .i64 v0, goInt st]) (setBlock W bm (.map es1 c1))
 store : ∀ (W : World) (bm : Nat), W.heap[bm]? = some (.map es1 c1) → (Instr.entryStore ZS (.map (some bm)) (goInt st) (.int .i64 (v0 + 1))).run Try.prog W = .ok () (setBlock W bm (.map es2 c1))
 look2 : ∀ (W : World) (bm : Nat), W.heap[bm]? = some (.map es2 c1) → (Instr.lookup ZS (.map (some bm)) (QH b) false).run Try.prog W = .ok (.int .i64 (v0 + 1)) W
theorem QaA (h : QaR es clock ks) (hn : b ∉ ks) : ∃ es1 es2, Kq es clock ks b 0 es1 es2 (clock + 1) clock ∧ QaR es2 (clock + 1) (ks ++ [b]) := by
 have hlen : es.toList.length = ks.length := by have := congrArg List.length h.keys; simpa using this
 have hk1 : ∀ v : Value, (es.push ⟨QH b, v, clock⟩).toList.map (·.key) = (ks ++ [b]).map QH := fun v => by
  rw [Array.toList_push, List.map_append, h.keys]; simp
 have hf1 : ∀ v : Value, ZO b (ks ++ [b]) (es.push (⟨QH b, v, clock⟩ : MapEntry)).toList 0 = some (0 + ks.length, v) := fun v => by
  refine JO (e := ⟨QH b, v, clock⟩) (fun k hk e => ?_) (by simp) (by rw [Array.toList_push, ← hlen]; simp);rw [List.getElem?_append_left hk] at e;exact hn (List.mem_of_getElem? e)
 refine ⟨es.push ⟨QH b, .int .i64 0, clock⟩, es.push ⟨QH b, .int .i64 1, clock⟩, ⟨fun W bm hb => ?_, fun W bm hb => ?_, fun W bm hb => WV hb h.keys hn, fun W bm hb => WM hb h.born h.lt, fun W bm hb => ?_⟩, hk1 _, ?_, ?_, ?_⟩
 ·rw [Z7 hb h.keys, Yn hn]; rfl
 ·rw [Z7 hb (hk1 _), hf1]; rfl
 ·rw [Z7 hb (hk1 _), hf1]; rfl
 ·intro x hx;rw [Array.toList_push] at hx;rcases List.mem_append.1 hx with hx | hx
  ·exact h.vals x hx
  ·simp at hx; rw [hx]
 ·rw [Array.toList_push, List.map_append];refine List.nodup_append.2 ⟨h.born, by simp, fun a ha c hc e1 => ?_⟩;obtain ⟨x, hx, rfl⟩ := List.mem_map.1 ha;have := h.lt x hx;simp at hc;omega
 ·intro x hx;rw [Array.toList_push] at hx;rcases List.mem_append.1 hx with hx | hx
  ·have := h.lt x hx; omega
  ·simp at hx; rw [hx]; simp
theorem QaU (h : QaR es clock ks) (hn : b ∈ ks) : ∃ es1 es2 c1 st, Kq es clock ks b 1 es1 es2 c1 st := by
 have hlen : es.toList.length = ks.length := by have := congrArg List.length h.keys; simpa using this
 obtain ⟨j, hj, hf⟩ : ∃ j : Nat, ks[j]? = some b ∧ ∀ k : Nat, k < j → ks[k]? ≠ some b := by
  exact UX hn
 have hjl : j < ks.length := (List.getElem?_eq_some_iff.1 hj).1;have he : es.toList[j]? = some (es.toList[j]'(by omega)) := List.getElem?_eq_getElem (by omega);have hv := h.vals _ (List.getElem_mem (h := (by omega : j < es.toList.length)));generalize es.toList[j]'(by omega) = e0 at he hv
 have hk2 : ∀ v : Value, (es.modify j fun e => { e with val := v }).toList.map (·.key) = ks.map QH := fun v => by
  rw [Array.toList_modify, modify_eq_set _ _ _ _ he, List.map_set, h.keys]
  have : (ks.map QH)[j]? = some e0.key := by
   have := congrArg (fun l => l[j]?) h.keys;simp only [List.getElem?_map, he, Option.map_some] at this;rw [List.getElem?_map]; exact this.symm
  exact set_self _ _ _ this
 have hf2 : ∀ v : Value, ZO b ks (es.modify j fun e => { e with val := v }).toList 0 = some (0 + j, v) := fun v => by
  refine JO (e := { e0 with val := v }) hf hj ?_;rw [Array.toList_modify, modify_eq_set _ _ _ _ he, List.getElem?_set_self (by omega)]
 have hl0 : ∀ (W : World) (bm : Nat), W.heap[bm]? = some (.map es clock) → (Instr.lookup ZS (.map (some bm)) (QH b) false).run Try.prog W = .ok (.int .i64 1) W := fun W bm hb => by
  rw [Z7 hb h.keys, JO hf hj he, ← hv]; rfl
 refine ⟨es, es.modify j fun e => { e with val := .int .i64 2 }, clock, e0.born, ⟨hl0, hl0, fun W bm hb => ?_, fun W bm hb => WS hb h.born he, fun W bm hb => ?_⟩⟩
 ·rw [Wv hb h.keys hf hj he, hv]
 ·rw [Z7 hb (hk2 _), hf2]; rfl
end
end Go.Proofs.Ytoldelocfmpccaa
namespace Go.Proofs.Ytoldelocfmpccaa
def WE (f : Nat → Bool) (i : Nat) : Nat → Bool := fun j => if i = j then true else f j
def Qa9 (P : Program) (ops : Array Oper) (φ : Nat → Value → World → Prop) (T : Nat → Prop) (Ψ : (Nat → Bool) → World → Prop) (a0 : Act) (w0 : World) (Q : Exit → Act → World → Prop) (i : Nat) (o : Oper) : Prop :=
 ∀ (a : Act) (w : World) (f : Nat → Bool), Qa T w0 w → Ψ f w → f i = false → (∀ j, XR o j = true → f j = true) → a.defers = a0.defers → a.tmps.size = a0.tmps.size →
  (∀ d, KQ ops i d = true → a.tmps.getD d undef = a0.tmps.getD d undef) →
  (∀ j, XR o j = true → φ j (a.tmps.getD (Q9 ops j) undef) w) →
  ∀ K : Act → World → Prop, (∀ v w', φ i v w' → Qa T w w' → Ψ (WE f i) w' → K (a.put o.dst v) w') →
   if Region.wanted o (yielded ops a.tmps) = true then Oper.wp P o a w K Q else K (a.put o.dst undef) w
structure QaT (ops : Array Oper) (n : Nat) (φ : Nat → Value → World → Prop) (T : Nat → Prop) (Ψ : (Nat → Bool) → World → Prop) (a0 : Act) (w0 : World) (listed : Array Bool) (a : Act) (w : World) : Prop where
 defers : a.defers = a0.defers
 size : a.tmps.size = a0.tmps.size
 same : Qa T w0 w
 st : Ψ (fun j => listed.getD j true) w
 kept : ∀ d, (∀ j o, ops[j]? = some o → listed.getD j true = true → o.dst ≠ some d) → a.tmps[d]? = a0.tmps[d]?
 done : ∀ j, j < n → listed.getD j true = true → φ j (a.tmps.getD (Q9 ops j) undef) w
 down : ∀ j o e, ops[j]? = some o → listed.getD j true = true → e ∈ o.after → Region.binds .any e = true → listed.getD e.on true = true
 tail : ∀ t, n ≤ t → t < ops.size → listed.getD t true = false
section
variable {P : Program} {ops : Array Oper} {n : Nat} {φ : Nat → Value → World → Prop} {T : Nat → Prop} {Ψ : (Nat → Bool) → World → Prop} {a0 : Act} {w0 : World} {Q : Exit → Act → World → Prop}
theorem QaT.step (hp : Ky ops n = true) (hstab : ∀ i v w w', φ i v w → Qa T w w' → φ i v w') (hsz : ∀ (i : Nat) (o : Oper) (d : Nat), ops[i]? = some o → o.dst = some d → d < a0.tmps.size)
  {listed : Array Bool} {a : Act} {w w' : World} {i : Nat} {o : Oper} {v : Value} (hl : listed.size = ops.size) (hin : i < n) (ho : ops[i]? = some o) (hni : listed.getD i true = false) (hr : ∀ e ∈ o.after, Region.binds .any e = true → listed.getD e.on true = true)
  (h : QaT ops n φ T Ψ a0 w0 listed a w) (hs : Qa T w w') (hv : φ i v w') (hst : Ψ (WE (fun j => listed.getD j true) i) w') : QaT ops n φ T Ψ a0 w0 (listed.setIfInBounds i true) (a.put o.dst v) w' := by
 have hi : i < ops.size := (Array.getElem?_eq_some_iff.1 ho).1;obtain ⟨hback, ⟨d, hd⟩, hdist⟩ := Zd hp hin ho;have hdl : d < a.tmps.size := by rw [h.size]; exact hsz i o d ho hd
 have hset := JN (listed := listed) (i := i) (by omega);refine ⟨by rw [hd]; exact h.defers, by rw [hd]; simp [Act.put]; exact h.size, h.same.trans hs, ?_, ?_, ?_, ?_, ?_⟩
 ·have e : (fun j => (listed.setIfInBounds i true).getD j true) = WE (fun j => listed.getD j true) i := funext hset;rw [e];exact hst
 ·intro k hk
  have hkd : d ≠ k := by
   intro e;exact hk i o ho (by rw [hset, if_pos rfl]) (by rw [hd, e])
  have : (a.put o.dst v).tmps[k]? = a.tmps[k]? := by
   rw [hd];simp only [Act.put, Array.getElem?_setIfInBounds, if_neg hkd]
  rw [this];refine h.kept k fun j oj hoj hlj => hk j oj hoj ?_
  rw [hset]; split
  ·rfl
  ·exact hlj
 ·intro j hj hlj;rw [hset] at hlj;rw [hd, Z8 _ _ _ _ hdl];by_cases hij : i = j
  ·subst hij;rw [if_pos (Zs ho hd).symm];exact hv
  ·rw [if_neg hij] at hlj;rw [if_neg (fun e => hdist j hj (fun e' => hij e'.symm) (by rw [Zs ho hd]; exact e.symm))];exact hstab _ _ _ _ (h.done j hj hlj) hs
 ·intro j oj e hoj hlj he hb;rw [hset] at hlj ⊢;split
  ·rfl
  ·by_cases hij : i = j
   ·subst hij;rw [ho] at hoj;injection hoj with hoj;subst hoj;exact hr e he hb
   ·rw [if_neg hij] at hlj;exact h.down j oj e hoj hlj he hb
 ·intro t ht hts;rw [hset, if_neg (by omega)];exact h.tail t ht hts
end
structure SPT (T : Nat → Prop) where
 p : Value → World → Prop
 st : ∀ v w w', p v w → Qa T w w' → p v w'
def SPT.eq {T : Nat → Prop} (u : Value) : SPT T := ⟨fun v _ => v = u, fun _ _ _ h _ => h⟩
def SPT.any {T : Nat → Prop} : SPT T := ⟨fun _ _ => True, fun _ _ _ _ _ => tv⟩
def Qcc {T : Nat → Prop} (L : List (SPT T)) (i : Nat) : SPT T := L.getD i SPT.any
def Wf (P : Program) (ops : Array Oper) {T : Nat → Prop} (L : List (SPT T)) (Ψ : (Nat → Bool) → World → Prop) (a0 : Act) (w0 : World) (Q : Exit → Act → World → Prop) (i : Nat) (o : Oper) : Prop :=
 Qa9 P ops (fun j v w => (Qcc L j).p v w) T Ψ a0 w0 Q i o
def Uz (P : Program) (ops : Array Oper) {T : Nat → Prop} (L : List (SPT T)) (Ψ : (Nat → Bool) → World → Prop) (a0 : Act) (w0 : World) (Q : Exit → Act → World → Prop) : Nat → List Oper → Prop
 | _, [] => True
 | i, o :: l => Wf P ops L Ψ a0 w0 Q i o ∧ Uz P ops L Ψ a0 w0 Q (i + 1) l
theorem Uz.at_ {P : Program} {ops : Array Oper} {T : Nat → Prop} {L : List (SPT T)} {Ψ : (Nat → Bool) → World → Prop} {a0 : Act} {w0 : World} {Q : Exit → Act → World → Prop} : ∀ (l : List Oper) (k : Nat), Uz P ops L Ψ a0 w0 Q k l → ∀ i o, l[i]? = some o → Wf P ops L Ψ a0 w0 Q (k + i) o
 | [], k, _, i, o, h => by simp at h
 | p :: l, k, hd, i, o, h => by
  cases i with
  | zero => simp at h; subst h; exact hd.1
  | succ i =>
   have := Uz.at_ l (k + 1) hd.2 i o (by simpa using h);rwa [show k + 1 + i = k + (i + 1) by omega] at this
def XY (ops : Array Oper) (a : Act) (k : Nat) : Value := ((ops[k]?).bind (·.dst)).elim undef fun d => a.tmps.getD d undef
def QaI (u : Nat → Value) (i : Nat) (v : Value) : Nat → Value := fun j => if i = j then v else u j
def KH (ops : Array Oper) : Bool :=
 (List.range ops.size).all fun i => ((ops[i]?).map fun o => o.after.all (fun e => decide (e.on < i) || !Region.binds .any e) && (List.range ops.size).all fun j => decide (j = i) || ((ops[j]?).bind (·.dst)).isNone || ((ops[j]?).bind (·.dst)) != o.dst).getD false
def Wi (P : Program) (ops : Array Oper) (φ : Nat → Value → World → Prop) (T : Nat → Prop) (Ψ : (Nat → Bool) → (Nat → Value) → World → Prop) (a0 : Act) (w0 : World) (Q : Exit → Act → World → Prop) (i : Nat) (o : Oper) : Prop :=
 ∀ (a : Act) (w : World) (f : Nat → Bool), Qa T w0 w → Ψ f (XY ops a) w → f i = false → (∀ j, XR o j = true → f j = true) → (∀ j k, Xl ops j k = true → f j = true → f k = true) → a.defers = a0.defers → a.tmps.size = a0.tmps.size →
  (∀ d, KQ ops i d = true → a.tmps.getD d undef = a0.tmps.getD d undef) →
  (∀ j, XR o j = true → φ j (XY ops a j) w) →
  ∀ K : Act → World → Prop, (∀ v w', (o.dst.isSome = true → φ i v w') → Qa T w w' → Ψ (WE f i) (QaI (XY ops a) i (if o.dst.isSome then v else undef)) w' → K (a.put o.dst v) w') →
   if Region.wanted o (yielded ops a.tmps) = true then Oper.wp P o a w K Q else K (a.put o.dst undef) w
structure KR (ops : Array Oper) (φ : Nat → Value → World → Prop) (T : Nat → Prop) (Ψ : (Nat → Bool) → (Nat → Value) → World → Prop) (a0 : Act) (w0 : World) (listed : Array Bool) (a : Act) (w : World) : Prop where
 defers : a.defers = a0.defers
 size : a.tmps.size = a0.tmps.size
 same : Qa T w0 w
 st : Ψ (fun j => listed.getD j true) (XY ops a) w
 kept : ∀ d, (∀ j o, ops[j]? = some o → listed.getD j true = true → o.dst ≠ some d) → a.tmps[d]? = a0.tmps[d]?
 done : ∀ j o, ops[j]? = some o → o.dst.isSome = true → listed.getD j true = true → φ j (XY ops a j) w
 down : ∀ j o e, ops[j]? = some o → listed.getD j true = true → e ∈ o.after → Region.binds .any e = true → listed.getD e.on true = true
section
variable {P : Program} {ops : Array Oper} {φ : Nat → Value → World → Prop} {T : Nat → Prop} {Ψ : (Nat → Bool) → (Nat → Value) → World → Prop} {a0 : Act} {w0 : World} {Q : Exit → Act → World → Prop}
theorem JX (hp : KH ops = true) {i : Nat} {o : Oper} (ho : ops[i]? = some o) :
  (∀ e ∈ o.after, Region.binds .any e = true → e.on < i) ∧ ∀ j oj d, ops[j]? = some oj → j ≠ i → oj.dst = some d → o.dst ≠ some d := by
 have hi : i < ops.size := (Array.getElem?_eq_some_iff.1 ho).1;have h := List.all_eq_true.1 hp i (List.mem_range.2 hi);rw [ho] at h;simp only [Option.map_some, Option.getD_some, Bool.and_eq_true, Array.all_eq_true_iff_forall_mem, List.all_eq_true, List.mem_range] at h;obtain ⟨h1, h2⟩ := h;refine ⟨fun e he hb => ?_, fun j oj d hj hne hd e => ?_⟩
 ·have := h1 e he;simpa [hb] using this
 ·have := h2 j (Array.getElem?_eq_some_iff.1 hj).1;rw [hj, Option.bind_some, hd, e] at this;simp [hne] at this
theorem UE {a : Act} {j : Nat} {o : Oper} {d : Nat} (ho : ops[j]? = some o) (hd : o.dst = some d) : XY ops a j = a.tmps.getD d undef := by simp [XY, ho, hd]
theorem UN {a : Act} {j : Nat} {o : Oper} (ho : ops[j]? = some o) (hd : o.dst = none) : XY ops a j = undef := by simp [XY, ho, hd]
theorem Qah (hp : KH ops = true) {a : Act} {i : Nat} {o : Oper} {v : Value} (ho : ops[i]? = some o) (hsz : ∀ d, o.dst = some d → d < a.tmps.size) : XY ops (a.put o.dst v) = QaI (XY ops a) i (if o.dst.isSome then v else undef) := by
 funext j
 unfold QaI;cases hd : o.dst with
 | none =>
  have e : a.put none v = a := rfl;rw [e];split
  ·rename_i e; subst e;rw [UN ho hd];simp
  ·rfl
 | some d =>
  split
  ·rename_i e; subst e;rw [UE ho hd, Z8 _ _ _ _ (hsz d hd), if_pos rfl];simp
  ·rename_i hne;cases hj : ops[j]? with
   | none => simp [XY, hj]
   | some oj =>
    cases hdj : oj.dst with
    | none => rw [UN hj hdj, UN hj hdj]
    | some d' =>
     rw [UE hj hdj, UE hj hdj, Z8 _ _ _ _ (hsz d hd), if_neg];intro e;exact (JX hp ho).2 j oj d' hj (fun e' => hne e'.symm) hdj (by rw [hd, e])
theorem KR.step (hp : KH ops = true) (hstab : ∀ i v w w', φ i v w → Qa T w w' → φ i v w') (hsz : ∀ (i : Nat) (o : Oper) (d : Nat), ops[i]? = some o → o.dst = some d → d < a0.tmps.size)
  {listed : Array Bool} {a : Act} {w w' : World} {i : Nat} {o : Oper} {v : Value} (hl : listed.size = ops.size) (ho : ops[i]? = some o) (hni : listed.getD i true = false) (hr : ∀ e ∈ o.after, Region.binds .any e = true → listed.getD e.on true = true)
  (h : KR ops φ T Ψ a0 w0 listed a w) (hs : Qa T w w') (hv : o.dst.isSome = true → φ i v w') (hst : Ψ (WE (fun j => listed.getD j true) i) (QaI (XY ops a) i (if o.dst.isSome then v else undef)) w') : KR ops φ T Ψ a0 w0 (listed.setIfInBounds i true) (a.put o.dst v) w' := by
 have hi : i < ops.size := (Array.getElem?_eq_some_iff.1 ho).1;have hset := JN (listed := listed) (i := i) (by omega);have hdz : ∀ d, o.dst = some d → d < a.tmps.size := fun d hd => by rw [h.size]; exact hsz i o d ho hd
 have hval := Qah (v := v) hp ho hdz;refine ⟨by rw [KG]; exact h.defers, by rw [KL]; exact h.size, h.same.trans hs, ?_, ?_, ?_, ?_⟩
 ·have e : (fun j => (listed.setIfInBounds i true).getD j true) = WE (fun j => listed.getD j true) i := funext hset;rw [e, hval];exact hst
 ·intro k hk;have hkd : o.dst ≠ some k := hk i o ho (by rw [hset, if_pos rfl])
  have : (a.put o.dst v).tmps[k]? = a.tmps[k]? := by
   cases hd : o.dst with
   | none => rfl
   | some d =>
    have hne : d ≠ k := fun e => hkd (by rw [hd, e])
    simp only [Act.put, Array.getElem?_setIfInBounds, if_neg hne]
  rw [this];refine h.kept k fun j oj hoj hlj => hk j oj hoj ?_
  rw [hset]; split
  ·rfl
  ·exact hlj
 ·intro j oj hoj hdj hlj;rw [hset] at hlj;rw [hval];unfold QaI;by_cases hij : i = j
  ·subst hij;rw [ho] at hoj;injection hoj with hoj;subst hoj;rw [if_pos rfl, if_pos hdj];exact hv hdj
  ·rw [if_neg hij] at hlj;rw [if_neg hij];exact hstab _ _ _ _ (h.done j oj hoj hdj hlj) hs
 ·intro j oj e hoj hlj he hb;rw [hset] at hlj ⊢;split
  ·rfl
  ·by_cases hij : i = j
   ·subst hij;rw [ho] at hoj;injection hoj with hoj;subst hoj;exact hr e he hb
   ·rw [if_neg hij] at hlj;exact h.down j oj e hoj hlj he hb
theorem VX (hp : KH ops = true) (hstab : ∀ i v w w', φ i v w → Qa T w w' → φ i v w') (hsz : ∀ (i : Nat) (o : Oper) (d : Nat), ops[i]? = some o → o.dst = some d → d < a0.tmps.size)
  (hany : ∀ i v w, (∀ o, ops[i]? = some o → o.dst = none) → φ i v w)
  (hstep : ∀ i o, ops[i]? = some o → Wi P ops φ T Ψ a0 w0 Q i o)
  (hend : ∀ a w, KR ops φ T Ψ a0 w0 (Array.replicate ops.size true) a w → Q .normal a w) :
  ∀ (fuel : Nat) (listed : Array Bool) (a : Act) (w : World), listed.size = ops.size → ((List.range ops.size).filter fun i => !listed.getD i true).length = fuel →
   KR ops φ T Ψ a0 w0 listed a w → wpAny P .any ops Q fuel listed a w := by
 have ready_nil : ∀ listed : Array Bool, listed.size = ops.size → Region.ready .any ops listed = [] → ∀ i, i < ops.size → listed.getD i true = true := by
  intro listed hlz hr i
  induction i using Nat.strongRecOn with
  | _ i ih =>
   intro hi;cases hli : listed.getD i true with
   | true => rfl
   | false =>
    exfalso;obtain ⟨o, ho⟩ : ∃ o, ops[i]? = some o := ⟨_, Array.getElem?_eq_getElem hi⟩
    have : i ∈ Region.ready .any ops listed := by
     unfold Region.ready;rw [List.mem_filter];refine ⟨List.mem_range.2 (by omega), ?_⟩;rw [ho, hli];simp only [Bool.not_false, Bool.true_and, Option.map_some, Option.getD_some, Array.all_eq_true_iff_forall_mem];intro e he;by_cases hb : Region.binds .any e = true
     ·have hlt := (JX hp ho).1 e he hb
      have hz : listed.getD e.on false = true := by
       exact KK (by omega) (ih e.on hlt (by omega))
      rw [hz]; simp
     ·simp [hb]
    rw [hr] at this;cases this
 have fin : ∀ (listed : Array Bool) (a : Act) (w : World), listed.size = ops.size → Region.ready .any ops listed = [] → KR ops φ T Ψ a0 w0 listed a w → Q .normal a w := by
  intro listed a w hlz hr h;have hall := ready_nil listed hlz hr
  have e : listed = Array.replicate ops.size true := by
   apply Array.ext
   ·simp [hlz]
   ·intro i h1 h2;have := hall i (by omega);simp [Array.getD_eq_getD_getElem?, h1] at this;simp [this]
  rw [e] at h;exact hend a w h
 intro fuel
 induction fuel with
 | zero =>
  intro listed a w hl hc h
  have hr : Region.ready .any ops listed = [] := by
   unfold Region.ready;rw [List.filter_eq_nil_iff];intro i hi hh;have hf := List.eq_nil_of_length_eq_zero hc;rw [List.filter_eq_nil_iff] at hf;have := hf i hi;simp only [Bool.and_eq_true] at hh;exact this hh.1
  exact ⟨hr, fin listed a w hl hr h⟩
 | succ fuel ih =>
  intro listed a w hl hc h;refine ⟨fun hr => fin listed a w hl hr h, fun i hi => ?_⟩;unfold Region.ready at hi;rw [List.mem_filter] at hi;obtain ⟨hi, hrd⟩ := hi;have hi := List.mem_range.1 hi;obtain ⟨o, ho⟩ : ∃ o, ops[i]? = some o := ⟨_, Array.getElem?_eq_getElem hi⟩;rw [ho] at hrd;simp only [Bool.and_eq_true, Bool.not_eq_true', Option.map_some, Option.getD_some, Array.all_eq_true_iff_forall_mem] at hrd;obtain ⟨hni, hrd⟩ := hrd
  have hrr : ∀ e ∈ o.after, Region.binds .any e = true → listed.getD e.on true = true := by
   intro e he hb;have := hrd e he;rw [hb] at this;exact KE (by simpa using this)
  refine wpOp_step ho fun K hK => ?_
  refine hstep i o ho a w _ h.same h.st hni (fun j hj => ?_) ?_ h.defers h.size (fun d hd => ?_) (fun j hj => ?_) K (fun v w' hv hs hst => hK _ _ ?_)
  ·simp only [XR, List.any_eq_true, Bool.and_eq_true, beq_iff_eq, Array.mem_toList_iff] at hj;obtain ⟨e, he, h2, h3⟩ := hj;rw [← h2];exact hrr e he h3
  ·intro j k hjk hfj;cases hoj : ops[j]? with
   | none => simp [Xl, hoj] at hjk
   | some oj =>
    simp only [Xl, hoj, Option.map_some, Option.getD_some, XR, List.any_eq_true, Bool.and_eq_true, beq_iff_eq, Array.mem_toList_iff] at hjk;obtain ⟨e, he, h2, h3⟩ := hjk;rw [← h2];exact h.down j oj e hoj hfj he h3
  ·have : a.tmps[d]? = a0.tmps[d]? := by
    refine h.kept d fun j oj hoj hlj e => ?_
    have hm : oj ∈ ops.toList := by
     rw [Array.mem_toList_iff];exact Array.mem_of_getElem? hoj
    have := List.all_eq_true.1 hd oj hm;simp only [e, beq_self_eq_true, Bool.not_true, Bool.false_or, XR, List.any_eq_true, Bool.and_eq_true, beq_iff_eq, Array.mem_toList_iff] at this;obtain ⟨ed, h1, h2, h3⟩ := this;have := h.down j oj ed hoj hlj h1 h3;rw [h2, hni] at this;cases this
   simp [Array.getD_eq_getD_getElem?, this]
  ·simp only [XR, List.any_eq_true, Bool.and_eq_true, beq_iff_eq, Array.mem_toList_iff] at hj;obtain ⟨e, he, h2, h3⟩ := hj;have hlt := (JX hp ho).1 e he h3;obtain ⟨oj, hoj⟩ : ∃ oj, ops[j]? = some oj := ⟨_, Array.getElem?_eq_getElem (by omega)⟩;cases hdj : oj.dst with
   | none => exact hany j _ _ fun o' ho' => by rw [hoj] at ho'; injection ho' with ho'; rw [← ho', hdj]
   | some d => exact h.done j oj hoj (by rw [hdj]; rfl) (by rw [← h2]; exact hrr e he h3)
  ·refine ih _ _ _ (by simpa using hl) ?_ (KR.step hp hstab hsz hl ho hni hrr h hs hv hst);refine Yj (i := i) (p := fun i => !listed.getD i true) hi (by rw [hni]; rfl) (fun j => ?_) hc;show (!(listed.setIfInBounds i true).getD j true) = _;rw [JN (by omega)];by_cases hij : i = j
   ·subst hij; simp
   ·rw [if_neg hij];have : (j != i) = true := by simpa using fun e : j = i => hij e.symm
    rw [this, Bool.and_true]
end
theorem U7 {lj : List Oper} {a a0 : Act} (hd : a.defers = a0.defers) (hs : a.tmps.size = a0.tmps.size) (hne : lj.Pairwise fun x y => ∀ d, x.dst = some d → y.dst ≠ some d)
  (hot : ∀ d, (∀ o ∈ lj, o.dst ≠ some d) → a.tmps.getD d undef = a0.tmps.getD d undef) : a = Qk a0 lj (lj.map fun o => o.dst.elim undef fun d => a.tmps.getD d undef) := by
 refine UG (by rw [hd, ZJ]) (by rw [hs, Jb]) (fun d hdl => ?_);by_cases h : ∃ (j : Nat) (hj : j < lj.length), lj[j].dst = some d
 ·obtain ⟨j, hj, hjd⟩ := h;rw [J3 lj _ a0 j hj (by simpa using hj) hjd (fun k hk hjk hkd => ?_) (by rw [← hs]; exact hdl)]
  ·simp [hjd]
  ·exact List.pairwise_iff_getElem.1 hne j k hj hk hjk d hjd hkd
 ·rw [ZC lj _ a0 (fun o ho hod => h (by
   obtain ⟨j, hj, rfl⟩ := List.mem_iff_getElem.1 ho
   exact ⟨j, hj, hod⟩))]
  exact hot d fun o ho hod => h (by
   obtain ⟨j, hj, rfl⟩ := List.mem_iff_getElem.1 ho
   exact ⟨j, hj, hod⟩)
def WO {T : Nat → Prop} (L : List (Option (SPT T))) (i : Nat) : SPT T := (L.getD i none).getD SPT.any
def Wg (P : Program) (ops : Array Oper) {T : Nat → Prop} (L : List (Option (SPT T))) (Ψ : (Nat → Bool) → (Nat → Value) → World → Prop) (a0 : Act) (w0 : World) (Q : Exit → Act → World → Prop) (i : Nat) (o : Oper) : Prop :=
 Wi P ops (fun j v w => (WO L j).p v w) T Ψ a0 w0 Q i o
def Y0 (P : Program) (ops : Array Oper) {T : Nat → Prop} (L : List (Option (SPT T))) (Ψ : (Nat → Bool) → (Nat → Value) → World → Prop) (a0 : Act) (w0 : World) (Q : Exit → Act → World → Prop) : Nat → List Oper → Prop
 | _, [] => True
 | i, o :: l => Wg P ops L Ψ a0 w0 Q i o ∧ Y0 P ops L Ψ a0 w0 Q (i + 1) l
theorem Y0.at_ {P : Program} {ops : Array Oper} {T : Nat → Prop} {L : List (Option (SPT T))} {Ψ : (Nat → Bool) → (Nat → Value) → World → Prop} {a0 : Act} {w0 : World} {Q : Exit → Act → World → Prop} : ∀ (l : List Oper) (k : Nat), Y0 P ops L Ψ a0 w0 Q k l → ∀ i o, l[i]? = some o → Wg P ops L Ψ a0 w0 Q (k + i) o
 | [], k, _, i, o, h => by simp at h
 | p :: l, k, hd, i, o, h => by
  cases i with
  | zero => simp at h; subst h; exact hd.1
  | succ i =>
   have := Y0.at_ l (k + 1) hd.2 i o (by simpa using h);rwa [show k + 1 + i = k + (i + 1) by omega] at this
def Qbp {T : Nat → Prop} (l : List Oper) (L : List (Option (SPT T))) : Bool := decide (L.length ≤ l.length) && (List.range l.length).all fun i => ((l[i]?).bind (·.dst)).isSome || (L.getD i none).isNone
theorem Qo {P : Program} {l : List Oper} {id : Nat} {T : Nat → Prop} {L : List (Option (SPT T))} {a0 : Act} {w0 : World} {Q : Exit → Act → World → Prop} (Ψ : (Nat → Bool) → (Nat → Value) → World → Prop) (hm : P.follows .mixedOrders = true) (hB : KH l.toArray = true) (hN : Qbp l L = true)
  (hsz : (l.all fun o => (o.dst.map fun d => decide (d < a0.tmps.size)).getD true) = true) (h0 : Ψ (fun j => (Array.replicate l.length false).getD j true) (XY l.toArray a0) w0.drew) (hstep : Y0 P l.toArray L Ψ a0 w0 Q 0 l)
  (hA : ∀ vs w f, vs.length = l.length → (∀ j, j < l.length → (WO L j).p (vs.getD j undef) w) → Qa T w0 w → Ψ f (fun j => vs.getD j undef) w → (∀ j, f j = true) → Q .normal (Qk a0 l vs) w) : (Code.region id l.toArray true).wp P Q a0 w0 := by
 refine wp_region_any hm ?_
 have hcount : ((List.range l.toArray.size).filter fun i => !(Array.replicate l.toArray.size false).getD i true).length = l.toArray.size := by
  have : ((List.range l.toArray.size).filter fun i => !(Array.replicate l.toArray.size false).getD i true) = List.range l.toArray.size := by
   rw [List.filter_eq_self];intro i hi;have := List.mem_range.1 hi;have hi' : i < l.length := by simpa using this
   simp [Array.getD_eq_getD_getElem?, hi']
  rw [this, List.length_range]
 have hany : ∀ i v w, (∀ o, l.toArray[i]? = some o → o.dst = none) → (WO L i).p v w := by
  intro i v w h;simp only [Qbp, Bool.and_eq_true, decide_eq_true_eq] at hN
  have : L.getD i none = none := by
   rcases Nat.lt_or_ge i l.length with hi | hi
   ·have := List.all_eq_true.1 hN.2 i (List.mem_range.2 hi);have ho : l[i]? = some l[i] := List.getElem?_eq_getElem hi;rw [ho, Option.bind_some, h l[i] (by simp)] at this;simpa using this
   ·simp [List.getD_eq_getElem?_getD, List.getElem?_eq_none (Nat.le_trans hN.1 hi)]
  unfold WO;rw [this];trivial
 refine VX (P := P) (Q := Q) (a0 := a0) (ops := l.toArray) (w0 := w0) (φ := fun j v w => (WO L j).p v w) (T := T) (Ψ := Ψ) hB (fun i v w w' h hs => (WO L i).st v w w' h hs) (fun i o k ho hk => ?_) hany (fun i o ho => ?_) (fun a w h => ?_) l.toArray.size (Array.replicate l.toArray.size false) a0 { w0 with drawn := w0.drawn + 1 } (by simp) hcount ?_
 ·have hmem : o ∈ l := by
   have : o ∈ l.toArray.toList := by rw [Array.mem_toList_iff]; exact Array.mem_of_getElem? ho
   simpa using this
  have := List.all_eq_true.1 hsz o hmem;rw [hk] at this;simpa using this
 ·have := Y0.at_ l 0 hstep i o (by simpa using ho);rw [Nat.zero_add] at this;exact this
 ·have hval : ∀ j, (l.map fun o => o.dst.elim undef fun d => a.tmps.getD d undef).getD j undef = XY l.toArray a j := fun j => by
   unfold XY;rw [List.getD_eq_getElem?_getD, List.getElem?_map];cases hj : l[j]? with
   | none => simp [hj]
   | some o => simp [hj]
  have hall : ∀ j, (Array.replicate l.toArray.size true).getD j true = true := fun j => by
   simp only [Array.getD_eq_getD_getElem?, Array.getElem?_replicate];split <;> rfl
  rw [U7 (a := a) (a0 := a0) (lj := l) h.defers h.size ?_ fun d hd => ?_]
  ·refine hA _ w (fun j => (Array.replicate l.toArray.size true).getD j true) (by rw [List.length_map]) (fun j hj => ?_) h.same (by rw [funext hval]; exact h.st) hall;rw [hval j];have ho : l.toArray[j]? = some l[j] := by simp [hj]
   cases hd : l[j].dst with
   | none => exact hany j _ _ fun o' ho' => by rw [ho] at ho'; injection ho' with ho'; rw [← ho', hd]
   | some d => exact h.done j l[j] ho (by rw [hd]; rfl) (hall j)
  ·rw [List.pairwise_iff_getElem];intro i j hi hj hij d hdi hdj;exact (JX hB (i := j) (o := l[j]) (by simp [hj])).2 i l[i] d (by simp [hi]) (by omega) hdi hdj
  ·have : a.tmps[d]? = a0.tmps[d]? := h.kept d fun j o ho _ => hd o (by
    have : o ∈ l.toArray.toList := by rw [Array.mem_toList_iff]; exact Array.mem_of_getElem? ho
    simpa using this)
   simp [Array.getD_eq_getD_getElem?, this]
 ·refine ⟨rfl, rfl, SR.drew, by simpa using h0, fun _ _ => rfl, fun j o ho _ h => ?_, fun j o e ho h => ?_⟩
  ·have hj := (Array.getElem?_eq_some_iff.1 ho).1;have hj : j < l.length := by simpa using hj
   simp [Array.getD_eq_getD_getElem?, hj] at h
  ·have hj := (Array.getElem?_eq_some_iff.1 ho).1;have hj : j < l.length := by simpa using hj
   simp [Array.getD_eq_getD_getElem?, hj] at h
end Go.Proofs.Ytoldelocfmpccaa
namespace Go.Proofs.Ytoldelocfmpccaa
open Go.RowKit Go.ChangeMaps
theorem Ke {W : World} {b : Nat} {o : Obj} (h : b < W.heap.size) : (setBlock W b o).heap[b]? = some o := by simp [setBlock, h]
theorem Qa.setBlock {S : Nat → Prop} {W : World} {b : Nat} (o : Obj) (h : ¬ S b) : Qa S W (Go.ChangeMaps.setBlock W b o) :=
 ⟨rfl, rfl, rfl, by simp [Go.ChangeMaps.setBlock], fun k hk hs => by simp [Go.ChangeMaps.setBlock, Array.getElem?_setIfInBounds]; intro e; subst e; exact absurd hs h⟩
def Xv (l : List Out) : List QZ := l.map (·.by_)
theorem Yl {l : List Out} {k : Nat} (h : k < l.length) : Xv (l.take (k + 1)) = Xv (l.take k) ++ [l[k].by_] := by
 unfold Xv;rw [List.take_succ_eq_append_getElem h, List.map_append]; rfl
theorem Wh {l : List Out} {k : Nat} (h : k < l.length) (hm : l[k].by_ ∈ Xv (l.take k)) : ¬ (Xv l).Nodup := by
 intro hn
 have e : Xv l = Xv (l.take k) ++ (l[k].by_ :: Xv (l.drop (k + 1))) := by
  unfold Xv;rw [← List.map_cons, ← List.drop_eq_getElem_cons h, ← List.map_append, List.take_append_drop]
 rw [e] at hn;exact (List.nodup_append.1 hn).2.2 _ hm _ (by simp) rfl
def Jf (l : List Out) : Bool := decide (Xv l).Nodup
set_option maxRecDepth 100000 in
set_option maxHeartbeats 4000000 in
theorem Vg (v : Value) (l : List Out) (S : Nat → Prop) (w : World) (hv : Q5 w S v l) : Calls Try.prog 83 #[v] w fun e w' => e = .returned (.bool (Jf l)) ∧ Qa (fun _ => True) w w' := by
 obtain ⟨A, cp, rfl, hc, hm⟩ := hv.form;unfold maxLen at hm;have Hv := LH hv;have hmm := @run_makeMap Try.prog;have hS0 := (Qa.refl (fun _ => True) w).alloc (.map #[] 0);have hb0 : (w.alloc (.map #[] 0)).heap[w.heap.size]? = some (.map #[] 0) := heap_alloc_new w _;have hz0 : (w.alloc (.map #[] 0)).heap.size = w.heap.size + 1 := by simp
 have HS0 := LH hS0;have HB0 := LH hb0;clear hS0 hb0 hv;go_enter Try.func83, Try.ntmps83;go_wp2;generalize w.alloc _ = w1 at *;go_loopw [9, 5] (fun i _ wr => ∃ (k : Nat) (es : Array MapEntry) (clock : Nat), i = .int .i64 k ∧ k ≤ l.length ∧ wr.heap[w.heap.size]? = some (.map es clock) ∧ QaR es clock (Xv (l.take k)) ∧ (Xv (l.take k)).Nodup ∧ Qa (fun q => q ≠ w.heap.size) w1 wr) (fun i _ _ => l.length - (intOf i).toNat)
 case atStart => exact ⟨0, #[], 0, rfl, Nat.zero_le _, HB0.out, ⟨rfl, fun x hx => by simp at hx, by simp, fun x hx => by simp at hx⟩, by simp [Xv], Qa.refl _ _⟩
 case round =>
  obtain ⟨k, es, clock, rfl, hk, hb, hents, hnd, hS3⟩ := hrel;obtain ⟨wo, rfl⟩ : ∃ wo : World, wo = wr := ⟨_, rfl⟩;have HE := LH hents;have HND := LH hnd;have HS3 := LH hS3;have HB := LH hb;have zb : w.heap.size < wo.heap.size := (Array.getElem?_eq_some_iff.1 hb).1;have HSw := LH (HS0.out.trans' hS3 fun i hi _ => by omega);clear hents hnd hb hS3;by_cases hlt : k < l.length
  ·obtain ⟨ad, rfl, -, s0_, s1_, s2_, s3_, s4_, s5_, s6_⟩ := Q5.cells (Qw.keepAll Hv.out HSw.out) hlt;have x1 : (0 : Int) ≤ (k : Int) := by omega
   have x2 : (k : Int) < (l.length : Int) := by omega
   have hab := World.block_lt_of_cell? wo _ s0_
   obtain ⟨v0, es1, es2, c1, st, ho, hv0⟩ : ∃ v0 es1 es2 c1 st, Kq es clock (Xv (l.take k)) l[k].by_ v0 es1 es2 c1 st ∧ ((v0 = 0 ∧ l[k].by_ ∉ Xv (l.take k) ∧ QaR es2 c1 (Xv (l.take (k + 1)))) ∨ (v0 = 1 ∧ l[k].by_ ∈ Xv (l.take k))) := by
    by_cases hmem : l[k].by_ ∈ Xv (l.take k)
    ·obtain ⟨es1, es2, c1, st, h⟩ := QaU HE.out hmem;exact ⟨1, es1, es2, c1, st, h, .inr ⟨rfl, hmem⟩⟩
    ·obtain ⟨es1, es2, h1, h2⟩ := QaA HE.out hmem;exact ⟨0, es1, es2, _, _, h1, .inl ⟨rfl, hmem, by rw [Yl hlt]; exact h2⟩⟩
   have hwr : IntKind.i64.wrap (v0 + 1) = v0 + 1 := by rw [IntKind.wrap_i64]; rcases hv0 with h | h <;> (have := h.1; omega)
   have HO := LH ho;have HV := LH hv0;clear ho hv0;have HDN := LH (fun h : l[k].by_ ∈ Xv (l.take k) => Wh hlt h);have HTT := LH (Yl hlt);generalize l[k] = o at *;go_upto_region 5 with (fail);have g0 := Row.new wo 93 (Qr o);have gS := (Qa.refl (fun _ => True) wo).alloc (.cells (Qr o).toArray 93);have HB1 : Hid ((wo.alloc (.cells (Qr o).toArray 93)).heap[w.heap.size]? = some (.map es clock)) := LH (Zn HB.out);have HS4 := LH (HS3.out.trans (gS.mono fun _ _ _ => tv));clear s0_ s1_ s2_ s3_ s4_ s5_ s6_ hab;simp only [Qr] at g0 gS HB1 HS4;revert g0 gS HB1 HS4;generalize wo.alloc _ = w5;intro g0 gS HB1 HS4;have zg := g0.lt;have HG := LH g0;have r_ := g0;obtain ⟨o0, o1, o2, o3, o4, o5, o6⟩ := CN7 r_;clear r_ g0 gS;refine Qo (T := fun q => q ≠ w.heap.size) (L := [some (.eq (.map (some w.heap.size))), some (.eq (.pointer (some ⟨wo.heap.size, 0, none⟩))), some (.eq (QH o.by_)), some (.eq (.int .i64 v0)), some (.eq (.int .i64 (v0 + 1))), some (.eq (.tuple #[.int .i64 v0, goInt st])), some (.eq (goInt st)), none]) (fun f u W => W.heap[w.heap.size]? = some (cond (f 7) (.map es2 c1) (cond (f 5) (.map es1 c1) (.map es clock)))) (by kernel_rfl) (by kernel_rfl) (by rfl) rfl ?_ ?_ ?_
   ·exact HB1.out
   ·refine ⟨?_, ?_, ?_, ?_, ?_, ?_, ?_, ?_, tv⟩
    all_goals (intro ac wc f hs hst hni hwt hdn hd hz hf hw K hK;generalize hU : XY _ ac = U at hst hK)
    ·have e0 := EV 3 (.map (some w.heap.size)) (hf 3 rfl);clear hd hz hf hw;simp only [if_true, RL, e0];go_simp;exact hK _ _ (fun _ => rfl) SR hst
    ·have e0 := EP 5 wo.heap.size 0 (hf 5 rfl);clear hd hz hf hw;simp only [if_true, RL, e0];go_simp;exact hK _ _ (fun _ => rfl) SR hst
    ·have e0 := EP 14 wo.heap.size 0 (hw 1 rfl);have m0 := MC o0 hs (show wo.heap.size ≠ w.heap.size by omega);have m1 := MC o1 hs (show wo.heap.size ≠ w.heap.size by omega);have m2 := MC o2 hs (show wo.heap.size ≠ w.heap.size by omega);have m3 := MC o3 hs (show wo.heap.size ≠ w.heap.size by omega);clear hd hz hf hw;simp only [if_true, RL, e0];go_simp;exact hK _ _ (fun _ => rfl) SR hst
    ·have e0 := EV 13 (.map (some w.heap.size)) (hw 0 rfl);have e1 := EV 15 (QH o.by_) (hw 2 rfl)
     have n7 : f 7 = false := by
      cases h : f 7 with
      | false => rfl
      | true => (have := hdn 4 3 rfl (hdn 7 4 rfl h); rw [hni] at this; cases this)
     rw [n7] at hst
     have hlk : (Instr.lookup ZS (.map (some w.heap.size)) (QH o.by_) false).run Try.prog wc = .ok (.int .i64 v0) wc := by
      cases h5 : f 5 with
      | false => rw [h5] at hst; exact HO.out.look0 wc _ hst
      | true => rw [h5] at hst; exact HO.out.look1 wc _ hst
     unfold ZS at hlk;clear hd hz hf hw;simp only [if_true, RL, e0, e1];go_simp;refine hK _ _ (fun _ => rfl) SR ?_;show wc.heap[w.heap.size]? = some (cond (f 7) _ (cond (f 5) _ _));rw [n7];exact hst
    ·have e0 := EV 16 (.int .i64 v0) (hw 3 rfl);clear hd hz hf hw;simp only [if_true, RL, e0];go_simp;exact hK _ _ (fun _ => rfl) SR hst
    ·have e0 := EV 13 (.map (some w.heap.size)) (hw 0 rfl);have e1 := EV 15 (QH o.by_) (hw 2 rfl)
     have n7 : f 7 = false := by
      cases h : f 7 with
      | false => rfl
      | true => (have := hdn 6 5 rfl (hdn 7 6 rfl h); rw [hni] at this; cases this)
     rw [n7, hni] at hst;have hme := HO.out.entry wc _ hst;have hlt : w.heap.size < wc.heap.size := (Array.getElem?_eq_some_iff.1 hst).1;unfold ZS at hme;clear hd hz hf hw;simp only [if_true, RL, e0, e1];go_simp;refine hK _ _ (fun _ => rfl) (Qa.setBlock _ (fun h => h rfl)) ?_;show (setBlock wc w.heap.size _).heap[w.heap.size]? = some (cond (f 7) _ _);rw [n7];exact Ke hlt
    ·have e0 := EV 18 (.tuple #[.int .i64 v0, goInt st]) (hw 5 rfl);clear hd hz hf hw;simp only [if_true, RL, e0];go_simp;exact hK _ _ (fun _ => rfl) SR hst
    ·have e0 := EV 13 (.map (some w.heap.size)) (hw 0 rfl);have e1 : ac.eval (.tmp 17) = (.int .i64 (v0 + 1)) := hw 4 rfl;have e2 := EV 19 (goInt st) (hw 6 rfl);have h5 : f 5 = true := hdn 6 5 rfl (hwt 6 rfl);rw [hni, h5] at hst;have hes := HO.out.store wc _ hst;have hlt : w.heap.size < wc.heap.size := (Array.getElem?_eq_some_iff.1 hst).1;unfold ZS goInt at hes;clear hd hz hf hw;simp only [if_true, RL, e0, e1, e2];go_simp;exact hK undef _ (fun h => nomatch h) (Qa.setBlock _ (fun h => h rfl)) (Ke hlt)
   ·intro vs wR f hvl hvp hsR hst hfR;obtain ⟨z0, z1, z2, z3, z4, z5, z6, z7, rfl⟩ := LN8 hvl
    ·obtain rfl : z0 = (.map (some w.heap.size)) := hvp 0 (by simp);obtain rfl : z1 = (.pointer (some ⟨wo.heap.size, 0, none⟩)) := hvp 1 (by simp);obtain rfl : z2 = (QH o.by_) := hvp 2 (by simp);obtain rfl : z3 = (.int .i64 v0) := hvp 3 (by simp);obtain rfl : z4 = (.int .i64 (v0 + 1)) := hvp 4 (by simp);obtain rfl : z5 = (.tuple #[.int .i64 v0, goInt st]) := hvp 5 (by simp);obtain rfl : z6 = (goInt st) := hvp 6 (by simp);clear hvl hvp;simp only [Qk, Act.put, LP];have hst : wR.heap[w.heap.size]? = some (cond (f 7) (.map es2 c1) (cond (f 5) (.map es1 c1) (.map es clock))) := hst;rw [hfR 7] at hst;have HB2 : Hid (wR.heap[w.heap.size]? = some (.map es2 c1)) := LH hst;have hlk := HO.out.look2 wR _ hst;unfold ZS at hlk;have HS5 := LH (HS4.out.trans hsR);have HSz := LH (HS0.out.trans' HS5.out fun i hi _ => by omega);have r_ := HG.out.keep hsR (by omega);clear o0 o1 o2 o3 o4 o5 o6;obtain ⟨o0, o1, o2, o3, o4, o5, o6⟩ := CN7 r_;clear r_;clear hst hfR hsR;rcases HV.out with ⟨rfl, hnm, hen⟩ | ⟨rfl, hmem⟩
     ·have HEN := LH hen;have HNM := LH hnm;clear hen hnm;go_wp2;go_roundw
      case rel => exact ⟨k + 1, es2, c1, by go_num, by omega, HB2.out, HEN.out, by rw [HTT.out]; exact List.nodup_append.2 ⟨HND.out, by simp, fun a ha b hb e => by simp at hb; subst hb; subst e; exact HNM.out ha⟩, HS5.out⟩
      case measure => simp [intOf]; omega
     ·have HF : Hid (Jf l = false) := LH (decide_eq_false (HDN.out hmem));clear hmem;go_wp2;go_ret;exact ⟨by rw [HF.out]; rfl, HSz.out⟩
  ·obtain rfl : k = l.length := by omega
   have hnd := HND.out;rw [List.take_length] at hnd;have HF : Hid (Jf l = true) := LH (decide_eq_true hnd);clear hnd;go_wp2;go_ret;exact ⟨by rw [HF.out]; rfl, HSw.out⟩
end Go.Proofs.Ytoldelocfmpccaa
namespace Go.Proofs.Ytoldelocfmpccaa
open Go.RowKit
theorem Yb {W : World} {k : Nat} {o : Out} {b : Bool} (R : Row W k 93 (Qr o)) {tmps : Array Value}
  (h2 : tmps.getD 4 undef = .pointer (some ⟨k, 0, none⟩)) (h3 : tmps.getD 5 undef = .bool b) :
  (results Try.f50 tmps).run Try.prog W = .ok (.tuple #[Xe o, .bool b]) W := by
 obtain ⟨d0, d1, d2, d3, d4, d5, d6⟩ := CN7 R;simp at h2 h3;simp [results, Try.results50, h2, h3, go_sem, d0, d1, d2, d3, d4, d5, d6]
set_option maxRecDepth 100000 in
set_option maxHeartbeats 2000000 in
theorem Jr (v : Value) (l : List Out) (b : QZ) (S : Nat → Prop) (w : World) (hv : Q5 w S v l) :
  Calls Try.prog 50 #[v, QH b] w (Qam (XV l b) w) := by
 obtain ⟨A, cp, rfl, hc, hm⟩ := hv.form;unfold maxLen at hm;have Hv := LH hv;have r0 := (Row.new w 26 (XM b)).keep ((ST).alloc (.cells (Qr Out.zero).toArray 93)) tv;have r1 := Row.new (w.alloc (.cells (XM b).toArray 26)) 93 (Qr Out.zero);have hS0 := ((Qa.refl (fun _ => True) w).alloc (.cells (XM b).toArray 26)).alloc (.cells (Qr Out.zero).toArray 93);rw [World.size_alloc] at r1;clear hv;go_enter Try.func50, Try.ntmps50;go_wp2;simp only [XM, Qr, Out.zero] at r0 r1 hS0;revert r0 r1 hS0;generalize (w.alloc _).alloc _ = w1;intro r0 r1 hS0;have R0 := LH r0;have R1 := LH r1;have HS0 := LH hS0;clear r0 r1 hS0;go_loopw [6] (fun i wr => ∃ k : Nat, i = .int .i64 k ∧ k ≤ l.length ∧ (∀ j (h : j < l.length), j < k → (l[j].by_ == b) = false) ∧ Qa (fun _ => True) w1 wr) (fun i _ => l.length - (intOf i).toNat)
 case atStart => exact ⟨0, rfl, Nat.zero_le _, fun j _ h => absurd h (Nat.not_lt_zero _), Qa.refl _ _⟩
 case round =>
  obtain ⟨k, rfl, hk, hno, hS⟩ := hrel;have HS := LH hS;have HSw := LH (HS0.out.trans hS);have Hno := LH hno;have R0 := LH (R0.out.keep hS tv);have R1 := LH (R1.out.keep hS tv);clear hno;by_cases hlt : k < l.length
  ·obtain ⟨ad, rfl, -, c0, c1, c2, c3, c4, c5, c6⟩ := Q5.cells (Qw.keepAll Hv.out HSw.out) hlt;have x1 : (0 : Int) ≤ (k : Int) := by omega
   have x2 : (k : Int) < (l.length : Int) := by omega
   have hat := @V7 l b k hlt Hno.out;have Hat := LH hat
   have hstep : (l[k].by_ == b) = false → ∀ j (h : j < l.length), j < k + 1 → (l[j].by_ == b) = false := by
    intro h0 j h hj;by_cases e : j = k
    ·subst e; exact h0
    ·exact Hno.out j h (by omega)
   have Hstep := LH hstep;obtain ⟨p0, p1, p2, p3⟩ := CN4 R0.out;have qE := fun W => Uy l[k].by_ b W
   clear hat hS hstep;generalize l[k] = o at *;cases hb : o.by_ == b
   ·rw [hb] at qE;have Hst := LH (Hstep.out hb);clear Hstep Hat hb;go_wp2;go_quiet (fail);rename_i nq;have hsq := (Qa.refl (fun _ => True) wr).drewN nq;have HS2 := LH (HS.out.trans hsq);clear c0 c1 c2 c3 c4 c5 c6 p0 p1 p2 p3;generalize wr.drewN nq = w2 at *;go_wp2;go_roundw
    case rel => exact ⟨k + 1, by go_num, by omega, Hst.out, HS2.out⟩
    case measure => simp [intOf]; omega
   ·rw [hb] at qE;have Hf := LH (Hat.out hb);clear Hstep Hat hb;go_wp2;go_quiet (fail);rename_i nq;have hsq := (Qa.refl (fun _ => True) wr).drewN nq;have HS2 := LH (HSw.out.trans hsq);have c0' := hsq.cell (p := ad.add (k * 7)) tv c0;have c1' := hsq.cell (p := ⟨(ad.add (k * 7)).block, (ad.add (k * 7)).off + 1, none⟩) tv c1;have c2' := hsq.cell (p := ⟨(ad.add (k * 7)).block, (ad.add (k * 7)).off + 2, none⟩) tv c2;have c3' := hsq.cell (p := ⟨(ad.add (k * 7)).block, (ad.add (k * 7)).off + 3, none⟩) tv c3;have c4' := hsq.cell (p := ⟨(ad.add (k * 7)).block, (ad.add (k * 7)).off + 4, none⟩) tv c4;have c5' := hsq.cell (p := ⟨(ad.add (k * 7)).block, (ad.add (k * 7)).off + 5, none⟩) tv c5;have c6' := hsq.cell (p := ⟨(ad.add (k * 7)).block, (ad.add (k * 7)).off + 6, none⟩) tv c6;have r3 := R1.out.keep hsq tv;clear c0 c1 c2 c3 c4 c5 c6 p0 p1 p2 p3 hsq;generalize wr.drewN nq = w2 at *;have R3 := LH r3;have z3 := r3.lt;obtain ⟨d0, d1, d2, d3, d4, d5, d6⟩ := CN7 r3;obtain ⟨f0, f1, f2, f3, f4, f5, f6⟩ := FN7 r3;clear r3;go_wp2;rw [Hf.out];exact bodyPost_ret (Yb (o := o) (show Row _ _ _ (Qr o) from R3.out.sets (Qr o) 0) rfl rfl) rfl ⟨rfl, Qa.sets' (by omega) (Qr o) 0 HS2.out⟩
  ·have hall := LH (Uq (b := b) (l := l) fun j h => Hno.out j h (by omega));clear hS;have r3 := R1.out;have R3 := LH r3;have z3 := r3.lt;obtain ⟨d0, d1, d2, d3, d4, d5, d6⟩ := CN7 r3;obtain ⟨f0, f1, f2, f3, f4, f5, f6⟩ := FN7 r3;clear r3;obtain rfl : k = l.length := by omega
   go_wp2;rw [hall.out];exact bodyPost_ret (Yb (o := Out.zero) (show Row _ _ _ (Qr Out.zero) from R3.out.sets (Qr Out.zero) 0) rfl rfl) rfl ⟨rfl, Qa.sets' (by omega) (Qr Out.zero) 0 HSw.out⟩
theorem Qw.takeK {α : Type} {f : α → List Value} {n : Nat} {w : World} {S : Nat → Prop} {A : Option Addr} {m c : Nat} {l : List α} (hf : ∀ x, (f x).length = n) (hn : 0 < n) (h : Qw f n w S (.slice A m c) l) {k : Nat} (hk : k ≤ l.length) : Qw f n w S (.slice A k c) (l.take k) := by
 obtain ⟨A', c', hv, h2, h3, h4, h5⟩ := h;injection hv with e1 e2 e3;subst e1 e3;have hl : (l.take k).length = k := by simp; omega
 have hfl : ∀ l' : List α, (l'.flatMap f).length = l'.length * n := fun l' => by
  induction l' with
  | nil => simp
  | cons a r ih => rw [List.flatMap_cons, List.length_append, ih, hf, List.length_cons, Nat.succ_mul]; omega
 refine ⟨A, c, by rw [hl], by omega, h3, by rw [hl, hfl, hl], fun h0 => ?_⟩;rw [hl] at h0;obtain ⟨ad, ha, hb, hc⟩ := h5 (by omega);refine ⟨ad, ha, hb, fun j u hu => hc j u ?_⟩;have e : l.flatMap f = (l.take k).flatMap f ++ (l.drop k).flatMap f := by rw [← List.flatMap_append, List.take_append_drop]
 have hj : j < ((l.take k).flatMap f).length := by
  rcases Nat.lt_or_ge j ((l.take k).flatMap f).length with h | h
  ·exact h
  ·rw [List.getElem?_eq_none h] at hu; cases hu
 rw [e, List.getElem?_append_left hj];exact hu
theorem Ww (l : List Out) (b : QZ) : (XV l b).2 = decide (b ∈ Xv l) := by
 unfold XV Xv;cases h : l.find? fun o => o.by_ == b with
 | none =>
  rw [List.find?_eq_none] at h;refine (decide_eq_false fun hm => ?_).symm;obtain ⟨x, hx, rfl⟩ := List.mem_map.1 hm;exact h x hx (by simp)
 | some o =>
  have h1 := List.find?_some h;have h2 := List.mem_of_find?_eq_some h;exact (decide_eq_true (List.mem_map.2 ⟨o, h2, by simpa using h1⟩)).symm
set_option maxRecDepth 100000 in
set_option maxHeartbeats 4000000 in
theorem Ji (v : Value) (l : List Out) (S : Nat → Prop) (w : World) (hv : Q5 w S v l) : Calls Try.prog 84 #[v] w fun e w' => e = .returned (.bool (Jf l)) ∧ Qa (fun _ => True) w w' := by
 obtain ⟨A, cp, rfl, hc, hm⟩ := hv.form;unfold maxLen at hm;have Hv := LH hv;clear hv;go_enter Try.func84, Try.ntmps84;go_wp2;go_loopw [3, 4, 5] (fun i _ _ wr => ∃ k : Nat, i = .int .i64 k ∧ k ≤ l.length ∧ (Xv (l.take k)).Nodup ∧ Qa (fun _ => True) w wr) (fun i _ _ _ => l.length - (intOf i).toNat)
 case atStart => exact ⟨0, rfl, Nat.zero_le _, by simp [Xv], Qa.refl _ _⟩
 case round =>
  obtain ⟨k, rfl, hk, hnd, hS3⟩ := hrel;obtain ⟨wo, rfl⟩ : ∃ wo : World, wo = wr := ⟨_, rfl⟩;have HND := LH hnd;have HSw := LH hS3;clear hnd hS3;by_cases hlt : k < l.length
  ·obtain ⟨ad, rfl, -, s0_, s1_, s2_, s3_, s4_, s5_, s6_⟩ := Q5.cells (Qw.keepAll Hv.out HSw.out) hlt;have x1 : (0 : Int) ≤ (k : Int) := by omega
   have x2 : (k : Int) < (l.length : Int) := by omega
   have x3 : (k : Int) ≤ (cp : Int) := by omega
   have hab := World.block_lt_of_cell? wo _ s0_;have gb := fun W (hW : Qa (fun _ => True) wo W) => Jr (.slice (some ad) k cp) (l.take k) l[k].by_ _ W (Qw.takeK Xq (by omega) (Qw.keepAll (Qw.keepAll Hv.out HSw.out) hW) (by omega))
   have hmem := Ww (l.take k) l[k].by_;have HDN := LH (fun h : l[k].by_ ∈ Xv (l.take k) => Wh hlt h);have HTT := LH (Yl hlt);obtain ⟨⟨q, is⟩, hq⟩ : ∃ r, r = XV (l.take k) l[k].by_ := ⟨_, rfl⟩;rw [← hq] at gb hmem;have HM := LH (show is = decide (l[k].by_ ∈ Xv (l.take k)) from hmem);clear hq hmem;unfold Qam at gb;generalize l[k] = o at *;go_upto_region 4 with (fail);refine Qo (T := fun q => q < wo.heap.size) (L := [some (.eq (.slice (some ad) l.length cp)), some (.eq (.int .i64 k)), some (.eq (.slice (some ad) k cp)), some (.eq (.slice (some ad) l.length cp)), some (.eq (.int .i64 k)), some (.eq (.pointer (some (ad.add (k * 7))))), some (.eq (.pointer (some (ad.add (k * 7))))), some (.eq (QH o.by_)), some (.eq (.tuple #[Xe q, .bool is])), some (.eq (.tuple #[Xe q, .bool is])), some (.eq (Xe q)), some (.eq (.bool is)), some (.any), none, some (.eq (.bool is))]) (fun f u W => f 12 = true → ∃ g, u 12 = .pointer (some ⟨g, 0, none⟩) ∧ wo.heap.size ≤ g ∧ Row W g 93 (cond (f 13) (Qr q) (Qr Out.zero))) (by kernel_rfl) (by kernel_rfl) (by rfl) rfl ?_ ?_ ?_
   ·exact fun h => nomatch h
   ·refine ⟨?_, ?_, ?_, ?_, ?_, ?_, ?_, ?_, ?_, ?_, ?_, ?_, ?_, ?_, ?_, tv⟩
    all_goals (intro ac wc f hs hst hni hwt hdn hd hz hf hw K hK;generalize hU : XY _ ac = U at hst hK)
    ·have e0 := EV 0 (.slice (some ad) l.length cp) (hf 0 rfl);clear hd hz hf hw;simp only [if_true, RL, e0];go_simp;exact hK _ _ (fun _ => rfl) SR hst
    ·have e0 := EV 3 (.int .i64 k) (hf 3 rfl);clear hd hz hf hw;simp only [if_true, RL, e0];go_simp;exact hK _ _ (fun _ => rfl) SR hst
    ·have e0 := EV 13 (.slice (some ad) l.length cp) (hw 0 rfl);have e1 := EV 14 (.int .i64 k) (hw 1 rfl);clear hd hz hf hw;simp only [if_true, RL, e0, e1];go_simp;exact hK _ _ (fun _ => rfl) SR hst
    ·have e0 := EV 0 (.slice (some ad) l.length cp) (hf 0 rfl);clear hd hz hf hw;simp only [if_true, RL, e0];go_simp;exact hK _ _ (fun _ => rfl) SR hst
    ·have e0 := EV 3 (.int .i64 k) (hf 3 rfl);clear hd hz hf hw;simp only [if_true, RL, e0];go_simp;exact hK _ _ (fun _ => rfl) SR hst
    ·have e0 := EV 16 (.slice (some ad) l.length cp) (hw 3 rfl);have e1 := EV 17 (.int .i64 k) (hw 4 rfl);clear hd hz hf hw;simp only [if_true, RL, e0, e1];go_simp;exact hK _ _ (fun _ => rfl) SR hst
    ·have e0 := EV 18 (.pointer (some (ad.add (k * 7)))) (hw 5 rfl);clear hd hz hf hw;simp only [if_true, RL, e0];go_simp;exact hK _ _ (fun _ => rfl) SR hst
    ·have e0 := EV 19 (.pointer (some (ad.add (k * 7)))) (hw 6 rfl);have m0 := MC s0_ hs hab;have m1 := MC s1_ hs hab;have m2 := MC s2_ hs hab;have m3 := MC s3_ hs hab;clear hd hz hf hw;simp only [if_true, RL, e0];go_simp;exact hK _ _ (fun _ => rfl) SR hst
    ·have e0 := EV 15 (.slice (some ad) k cp) (hw 2 rfl);have e1 := EV 20 (QH o.by_) (hw 7 rfl);clear hd hz hf hw;simp only [if_true, RL, e0, e1];go_simp;refine (gb wc (hs.mono fun i hi _ => hi)).mono ?_;rintro e wd ⟨rfl, hsu⟩;exact hK _ _ (fun _ => rfl) (hsu.mono fun _ _ _ => tv) (fun h => let ⟨g, x1, x2, x3⟩ := hst h; ⟨g, x1, x2, x3.keep hsu tv⟩)
    ·have e0 := EV 21 (.tuple #[Xe q, .bool is]) (hw 8 rfl);clear hd hz hf hw;simp only [if_true, RL, e0];go_simp;exact hK _ _ (fun _ => rfl) SR hst
    ·have e0 := EV 12 (.tuple #[Xe q, .bool is]) (hw 9 rfl);clear hd hz hf hw;simp only [if_true, RL, e0];go_simp;exact hK _ _ (fun _ => rfl) SR hst
    ·have e0 := EV 12 (.tuple #[Xe q, .bool is]) (hw 9 rfl);clear hd hz hf hw;simp only [if_true, RL, e0];go_simp;exact hK _ _ (fun _ => rfl) SR hst
    ·clear hd hz hf hw;simp only [if_true, RL];go_simp
     have h12 : f 13 = false := by
      cases h : f 13 with
      | false => rfl
      | true => (have := hdn 13 12 rfl h; rw [hni] at this; cases this)
     refine hK _ _ (fun _ => tv) (SR.alloc _) (fun _ => ⟨_, rfl, hs.size, ?_⟩);show Row _ _ _ (cond (f 13) (Qr q) (Qr Out.zero));rw [h12];exact Row.new _ _ (Qr Out.zero)
    ·have p0 : (.any : SPT (fun q => q < wo.heap.size)).p (ac.eval (.tmp 4)) wc := hw 12 rfl;obtain ⟨u0, e0⟩ : ∃ u, ac.eval (.tmp 4) = u := ⟨_, rfl⟩;have v0 : U 12 = u0 := by rw [← hU]; exact e0
     rw [e0] at p0;have e1 := EV 22 (Xe q) (hw 10 rfl);obtain ⟨gl, hgl, hgl2, hrl⟩ := hst (hwt 12 rfl);rw [hni] at hrl;rw [v0] at hgl;subst hgl;have hgl := v0;have hrl : Row wc gl 93 (Qr Out.zero) := hrl;have l0 := hrl.cell 0;have l1 := hrl.cell 1;have l2 := hrl.cell 2;have l3 := hrl.cell 3;have l4 := hrl.cell 4;have l5 := hrl.cell 5;have l6 := hrl.cell 6;simp only [Qr, Out.zero, LG] at l0 l1 l2 l3 l4 l5 l6;obtain ⟨h0, h1, h2, h3, h4, h5, h6⟩ := FN7 hrl;have zl := hrl.lt;clear hd hz hf hw;simp only [if_true, RL, e0, e1];go_simp;exact hK undef _ (fun h => nomatch h) (Qa.sets (by omega) (Qr q) 0 SR) (fun _ => ⟨gl, hgl, hgl2, hrl.sets (Qr q) 0⟩)
    ·have e0 := EV 23 (.bool is) (hw 11 rfl);clear hd hz hf hw;simp only [if_true, RL, e0];go_simp;exact hK _ _ (fun _ => rfl) SR hst
   ·intro vs wR f hvl hvp hsR hst hfR;obtain ⟨z0, z1, z2, z3, z4, z5, z6, z7, z8, z9, z10, z11, z12, z13, z14, rfl⟩ := Qbw hvl
    ·obtain rfl : z0 = (.slice (some ad) l.length cp) := hvp 0 (by simp);obtain rfl : z1 = (.int .i64 k) := hvp 1 (by simp);obtain rfl : z2 = (.slice (some ad) k cp) := hvp 2 (by simp);obtain rfl : z3 = (.slice (some ad) l.length cp) := hvp 3 (by simp);obtain rfl : z4 = (.int .i64 k) := hvp 4 (by simp);obtain rfl : z5 = (.pointer (some (ad.add (k * 7)))) := hvp 5 (by simp);obtain rfl : z6 = (.pointer (some (ad.add (k * 7)))) := hvp 6 (by simp);obtain rfl : z7 = (QH o.by_) := hvp 7 (by simp);obtain rfl : z8 = (.tuple #[Xe q, .bool is]) := hvp 8 (by simp);obtain rfl : z9 = (.tuple #[Xe q, .bool is]) := hvp 9 (by simp);obtain rfl : z10 = (Xe q) := hvp 10 (by simp);obtain rfl : z11 = (.bool is) := hvp 11 (by simp);have hx10 : (.any : SPT (fun q => q < wo.heap.size)).p z12 wR := hvp 12 (by simp);obtain rfl : z14 = (.bool is) := hvp 14 (by simp);clear hvl hvp;simp only [Qk, Act.put, LP];have hSc : Qa (fun _ => True) wo wR := hsR.mono fun i hi _ => hi
     have HSc := LH (HSw.out.trans hSc);clear hst hfR hx10 hsR gb hSc s0_ s1_ s2_ s3_ s4_ s5_ s6_ hab;cases is
     ·have HNM : Hid (o.by_ ∉ Xv (l.take k)) := LH (of_decide_eq_false HM.out.symm);go_wp2;go_roundw
      case rel => exact ⟨k + 1, by go_num, by omega, by rw [HTT.out]; exact List.nodup_append.2 ⟨HND.out, by simp, fun a ha b hb e => by simp at hb; subst hb; subst e; exact HNM.out ha⟩, HSc.out⟩
      case measure => simp [intOf]; omega
     ·have HF : Hid (Jf l = false) := LH (decide_eq_false (HDN.out (of_decide_eq_true HM.out.symm)));go_wp2;go_ret;exact ⟨by rw [HF.out]; rfl, HSc.out⟩
  ·obtain rfl : k = l.length := by omega
   have hnd := HND.out;rw [List.take_length] at hnd;have HF : Hid (Jf l = true) := LH (decide_eq_true hnd);clear hnd;go_wp2;go_ret;exact ⟨by rw [HF.out]; rfl, HSw.out⟩
theorem KX {W : World} {k : Nat} {u : Value} {c : Cel} (R : Row W k 64 (Qj (u, c))) {tmps : Array Value}
  (h2 : tmps.getD 2 undef = .pointer (some ⟨k, 0, none⟩)) :
  (results Try.f102 tmps).run Try.prog W = .ok (KO u c) W := by
 have d0 : W.cell? ⟨k, 0, none⟩ = some (.string (str c.key)) := R.cell 0;have d1 : W.cell? ⟨k, 1, none⟩ = some (u) := R.cell 1;have d2 : W.cell? ⟨k, 2, none⟩ = some (.bool c.locked) := R.cell 2;have d3 : W.cell? ⟨k, 3, none⟩ = some (.int .i64 c.lock.by_.node) := R.cell 3;have d4 : W.cell? ⟨k, 4, none⟩ = some (.int .i64 c.lock.by_.life) := R.cell 4;have d5 : W.cell? ⟨k, 5, none⟩ = some (.int .i64 c.lock.by_.seq) := R.cell 5;have d6 : W.cell? ⟨k, 6, none⟩ = some (.int .i64 c.lock.by_.attempt) := R.cell 6;have d7 : W.cell? ⟨k, 7, none⟩ = some (.int .i64 c.lock.home) := R.cell 7;have d8 : W.cell? ⟨k, 8, none⟩ = some (.int .i64 c.lock.at_.wall) := R.cell 8;have d9 : W.cell? ⟨k, 9, none⟩ = some (.int .i64 c.lock.at_.tie) := R.cell 9;have d10 : W.cell? ⟨k, 10, none⟩ = some (.bool c.lock.drop) := R.cell 10;have d11 : W.cell? ⟨k, 11, none⟩ = some (.string (str c.lock.data)) := R.cell 11;simp at h2;simp [results, Try.results102, h2, go_sem, d0, d1, d2, d3, d4, d5, d6, d7, d8, d9, d10, d11]
set_option maxHeartbeats 1000000 in
theorem WU (u : Value) (c : Cel) (S : Nat → Prop) (w : World) (hv : Zl w S u c.vers) (hn : c.vers.length ≤ 1000000) :
  Calls Try.prog 102 #[KO u c] w (Qbm c w) := by
 obtain ⟨W0, hW0⟩ : ∃ W0, W0 = (w.alloc (.cells #[.string (str c.key), u, .bool c.locked, .int .i64 c.lock.by_.node, .int .i64 c.lock.by_.life, .int .i64 c.lock.by_.seq, .int .i64 c.lock.by_.attempt, .int .i64 c.lock.home, .int .i64 c.lock.at_.wall, .int .i64 c.lock.at_.tie, .bool c.lock.drop, .string (str c.lock.data)] 64)).alloc (.cells #[.string ⟨#[]⟩, .slice none 0 0, .bool false, .int .i64 0, .int .i64 0, .int .i64 0, .int .i64 0, .int .i64 0, .int .i64 0, .int .i64 0, .bool false, .string ⟨#[]⟩] 64) := ⟨_, rfl⟩;have hS0 : Qa (fun _ => True) w W0 := by rw [hW0]; exact (SR.alloc _).alloc _
 have hz0 : W0.heap.size = w.heap.size + 2 := by rw [hW0, World.size_alloc, World.size_alloc]
 have hr0 : Row W0 w.heap.size 64 (Qj (u, c)) := by
  rw [hW0];exact (Row.new w 64 (Qj (u, c))).keep ((ST).alloc _) tv
 have hr1 : Row W0 (w.heap.size + 1) 64 (#[.string ⟨#[]⟩, .slice none 0 0, .bool false, .int .i64 0, .int .i64 0, .int .i64 0, .int .i64 0, .int .i64 0, .int .i64 0, .int .i64 0, .bool false, .string ⟨#[]⟩] : Array Value).toList := by
  have := Row.new (w.alloc (.cells #[.string (str c.key), u, .bool c.locked, .int .i64 c.lock.by_.node, .int .i64 c.lock.by_.life, .int .i64 c.lock.by_.seq, .int .i64 c.lock.by_.attempt, .int .i64 c.lock.home, .int .i64 c.lock.at_.wall, .int .i64 c.lock.at_.tie, .bool c.lock.drop, .string (str c.lock.data)] 64)) 64 (#[.string ⟨#[]⟩, .slice none 0 0, .bool false, .int .i64 0, .int .i64 0, .int .i64 0, .int .i64 0, .int .i64 0, .int .i64 0, .int .i64 0, .bool false, .string ⟨#[]⟩] : Array Value).toList;rw [World.size_alloc] at this;rw [hW0]; exact this
 have g := Uu u c.vers S W0 (hv.keepAll hS0) hn;obtain ⟨Au, cu, rfl, -, -⟩ := hv.form;have HS0 := LH hS0;have Hr0 := LH hr0;have Hr1 := LH hr1;have HW0 := LH hW0;have Hz0 := LH hz0;clear hv hS0 hr0 hr1 hW0 hz0;go_enter Try.func102, Try.ntmps102;go_wp2_with (go_at_call 92; refine Qf ?_);unfold Hid;rw [← HW0.out];refine g.mono ?_;rintro e w1 ⟨u', rfl, hown, hS⟩;obtain ⟨A, cp, rfl, -, -⟩ := hown.form;have hq0 := Hr0.out.keep hS tv;have hq1 := Hr1.out.keep hS tv;have Hq0 := LH hq0;have Hq1 := LH hq1;have Hown := LH hown;have HS := LH hS;obtain ⟨a0, a1, a2, a3, a4, a5, a6, a7, a8, a9, a10, a11, f0, f1, f2, f3, f4, f5, f6, f7, f8, f9, f10, f11⟩ := QD hq0;obtain ⟨d0, d1, d2, d3, d4, d5, d6, d7, d8, d9, d10, d11, e0, e1, e2, e3, e4, e5, e6, e7, e8, e9, e10, e11⟩ := QD hq1;have z0 := hq0.lt;have z1 := hq1.lt;clear hown hS hq0 hq1 g f0 f2 f3 f4 f5 f6 f7 f8 f9 f10 f11;go_wp2;have k1 := Hq0.out.set_ 1 (.slice A c.vers.length cp);have k2 : Row (w1.setCell ⟨w.heap.size, 1, none⟩ (.slice A c.vers.length cp)) (w.heap.size + 1) 64 (#[.string ⟨#[]⟩, .slice none 0 0, .bool false, .int .i64 0, .int .i64 0, .int .i64 0, .int .i64 0, .int .i64 0, .int .i64 0, .int .i64 0, .bool false, .string ⟨#[]⟩] : Array Value).toList := Hq1.out.keep ((Qa.refl (fun k => k = w.heap.size + 1) w1).setCell (fun _ h => by simp at h) _) rfl;have t1 : Qa (fun k => k ≠ w.heap.size ∧ k ≠ w.heap.size + 1) w1 (w1.setCell ⟨w.heap.size, 1, none⟩ (.slice A c.vers.length cp)) := (Qa.refl _ w1).setCell (fun _ h => h.1 rfl) _;obtain ⟨r1, r2⟩ := J8 (b0 := .string (str c.key)) (b1 := .slice A c.vers.length cp) (b2 := .bool c.locked) (b3 := .int .i64 c.lock.by_.node) (b4 := .int .i64 c.lock.by_.life) (b5 := .int .i64 c.lock.by_.seq) (b6 := .int .i64 c.lock.by_.attempt) (b7 := .int .i64 c.lock.home) (b8 := .int .i64 c.lock.at_.wall) (b9 := .int .i64 c.lock.at_.tie) (b10 := .bool c.lock.drop) (b11 := .string (str c.lock.data)) (fun _ h => h.2 rfl) k2 t1;refine bodyPost_ret (KX (u := .slice A c.vers.length cp) (c := c) r1 rfl) rfl ⟨_, rfl, (Hown.out.keep r2 fun k h1 h2 => ?_).lower (by rw [Hz0.out]; omega), (HS0.out.trans HS.out).trans' r2 fun k hk _ => ?_⟩
 ·have := Hz0.out;constructor <;> omega
 ·constructor <;> omega
set_option maxHeartbeats 1000000 in
theorem QaQ (v : Value) (cs : List Cel) (S : Nat → Prop) (w : World) (hv : QU w S v cs) (hn : cs.length ≤ 100000) (hn2 : ∀ c ∈ cs, c.vers.length ≤ 1000000) :
  Calls Try.prog 101 #[v, .func (.func 102) #[] #[]] w (KZ cs w) := by
 obtain ⟨A, cp, rfl, hc, hm⟩ := hv.form;have Hv := LH hv;have Hn2 := LH hn2;unfold maxLen at hm;clear hv hn2;go_enter Try.func101, Try.ntmps101;go_wp2;go_loopw [5, 7, 10] (fun l _ i wr => ∃ k : Nat, i = .int .i64 k ∧ k ≤ cs.length ∧ QY wr w.heap.size l (cs.take k) ∧ Qa (fun _ => True) w wr) (fun _ _ i _ => cs.length - (intOf i).toNat)
 case atStart => exact ⟨0, rfl, Nat.zero_le _, by rw [List.take_zero]; exact QY.nil _ _, Qa.refl _ _⟩
 case round =>
  obtain ⟨k, rfl, hk, hown, hS⟩ := hrel;have HS := LH hS;have Hown := LH hown;have hsz := hS.size;obtain ⟨Al, nl, cl, rfl, hl1, hl2⟩ := hown.form3;unfold maxLen at hl2;by_cases hlt : k < cs.length
  ·obtain ⟨ad, u, rfl, -, hvr, c0, c1, c2, c3, c4, c5, c6, c7, c8, c9, c10, c11⟩ := QU.cells12 (Hv.out.keepAll hS) hlt;obtain ⟨Au, cu, rfl, -, -⟩ := hvr.form;have x1 : (0 : Int) ≤ (k : Int) := by omega
   have x2 : (k : Int) < (cs.length : Int) := by omega
   have hab := World.block_lt_of_cell? wr _ c0;have htk : cs.take (k + 1) = cs.take k ++ [cs[k]] := List.take_succ_eq_append_getElem hlt;have hcl := Hn2.out cs[k] (List.getElem_mem hlt);have Htk := LH htk;have Hvr := LH hvr;clear hvr htk hown hS;generalize cs[k] = c at *;have g := WU (.slice Au c.vers.length cu) c S (wr.alloc (.cells (Qj (.slice Au c.vers.length cu, c)).toArray 64)) (Qw.keepAll Hvr.out (SR.alloc _)) hcl;go_wp2_with (go_at_call 102; refine Qf ?_);unfold Hid;refine g.mono ?_;rintro e w5 ⟨u', rfl, hown5, hS5⟩;obtain ⟨A5, c5', rfl, -, -⟩ := hown5.form;have hS6 := ((Qa.refl (fun _ => True) wr).alloc (.cells (Qj (.slice Au c.vers.length cu, c)).toArray 64)).trans hS5;have HS6 := LH hS6;have Hown5 := LH hown5;clear hS5 hS6 hown5 g c0 c1 c2 c3 c4 c5 c6 c7 c8 c9 c10 c11;go_wp2_with (at_builtin; refine Qf ?_);unfold Hid;refine Xu (c := c) (B := w.heap.size) rfl (.tmp 14) (.tmp 18) rfl rfl rfl rfl (Hown.out.keepAll HS6.out) (Hown5.out.wr.mono fun j _ hj => by rw [World.size_alloc] at hj; omega) (by have := HS6.out.size; omega) (by rw [List.length_take]; omega) ?_;intro v' w7 hown7 hS7;have Hown7 := LH hown7;have HS7 := LH hS7;clear hown7 hS7;go_wp2;go_roundw
   case rel => exact ⟨k + 1, by go_num, by omega, by rw [Htk.out]; exact Hown7.out, (HS.out.trans HS6.out).trans' HS7.out fun j hj _ => hj⟩
   case measure => simp [intOf]; omega
  ·obtain rfl : k = cs.length := by omega
   rw [List.take_length] at Hown;clear hS hown;go_wp2;go_ret;exact ⟨_, rfl, Hown.out, HS.out⟩
def Qbv (l : List Out) (w : World) (e : Ending) (w' : World) : Prop := ∃ v, e = .returned v ∧ Jo w' w.heap.size v l ∧ Qa (fun _ => True) w w'
set_option maxHeartbeats 1000000 in
theorem Ym (v : Value) (l : List Out) (S : Nat → Prop) (w : World) (hv : Q5 w S v l) (hn : l.length ≤ 1000000) :
  Calls Try.prog 103 #[v] w (Qbv l w) := by
 obtain ⟨A, cp, rfl, hc, hm⟩ := hv.form;unfold maxLen at hm;have qN : ∀ (w : World) (a : Option Addr) (n c : Nat), (binOp .eql 75 (.slice a n c) (.slice none 0 0)).run Try.prog w = .ok (.bool a.isNone) w := fun w a n c => Lib.run_eql_slice_nil w _ _ a n c 0 0 KY.und
 cases A with
 | none =>
  have h0 : l = [] := by
   rcases l with _ | ⟨x, l⟩
   ·rfl
   ·obtain ⟨ad, c, h, _⟩ := Qw.at_ hv Xq (i := 0) (by simp);cases h
  subst h0;clear hv;go_enter Try.func103, Try.ntmps103;go_wp2;go_ret;exact ⟨_, rfl, Qg.nil _ _, Qa.refl _ _⟩
 | some ad =>
  have Hv := LH hv;clear hv;go_enter Try.func103, Try.ntmps103;go_wp2_with (at_builtin; refine Qf ?_);unfold Hid;refine ZT KY Xq ZE rfl (.tmp 5) (.tmp 6) rfl rfl rfl (Hv.out.keepAll (SR.alloc _)) (Qg.empty Qr 7 _ w) (by rw [World.size_alloc]; omega) (by simp only [maxLen, List.length_nil]; omega) (by simp only [List.length_nil]; omega) ?_;intro v' w' hown hS;have Hown := LH hown;have HS := LH hS;clear hown hS;go_wp2;go_ret;refine ⟨_, rfl, by simpa using Hown.out, ((ST).alloc _).trans' HS.out fun k hk _ e => ?_⟩;injection (show some k = some w.heap.size from e) with e;omega
structure Ql where
 epoch : Int
 holder : Int
 floor : St
 closed : Int
 low : Int
 cells : List Cel
 recs : List Out
 done : List Out
def Qb (vc vr vd : Value) (p : Ql) : List Value := [.int .i64 p.epoch, .int .i64 p.holder, .int .i64 p.floor.wall, .int .i64 p.floor.tie, .int .i64 p.closed, .int .i64 p.low, vc, vr, vd]
abbrev Qx (vc vr vd : Value) (p : Ql) : Value := .agg #[.int .i64 p.epoch, .int .i64 p.holder, .int .i64 p.floor.wall, .int .i64 p.floor.tie, .int .i64 p.closed, .int .i64 p.low, vc, vr, vd]
def Qh : List Value := [.int .i64 0, .int .i64 0, .int .i64 0, .int .i64 0, .int .i64 0, .int .i64 0, .slice none 0 0, .slice none 0 0, .slice none 0 0]
structure Qm (w : World) (B : Nat) (vc vr vd : Value) (p : Ql) : Prop where
 cells : QY w B vc p.cells
 recs : Jo w B vr p.recs
 done : Jo w B vd p.done
 apart : ∀ k, vd.ownBlock = some k → vr.ownBlock ≠ some k
structure XE (w : World) (S : Nat → Prop) (vc vr vd : Value) (p : Ql) : Prop where
 cells : QU w S vc p.cells
 recs : Q5 w S vr p.recs
 done : Q5 w S vd p.done
structure X3 (p : Ql) : Prop where
 cells : p.cells.length ≤ 100000
 vers : ∀ c ∈ p.cells, c.vers.length ≤ 1000000
 recs : p.recs.length ≤ 1000000
 done : p.done.length ≤ 1000000
theorem Qg.keepG {α : Type} {f : α → List Value} {n B g : Nat} {e e' : TypeId} {w w' : World} {v : Value} {l : List α} {xs : List Value} (h : Qg f n e w B v l) (hr : Row w g e' xs) (hne : e ≠ e') (hs : Qa (fun k => k ≠ g) w w') : Qg f n e w' B v l := by
 refine JW h hs fun k hk => ?_
 rcases XQ h with ⟨rfl, _, _⟩ | ⟨g', cap, cur, rfl, _, hr', _⟩
 ·cases hk
 ·injection (show some g' = some k from hk) with hk;subst hk;exact hr'.ne hr hne
theorem X5.keepG {α : Type} {f : α → List Value} {n g : Nat} {e e' : TypeId} {w w' : World} {S : Nat → Prop} {v : Value} {l : List α} {xs : List Value} (h : X5 f n e w S v l) (hr : Row w g e' xs) (hne : e ≠ e') (hs : Qa (fun k => k ≠ g) w w') : X5 f n e w' S v l := by
 obtain ⟨A, c, h1, h2, h3, h4⟩ := h;refine ⟨A, c, h1, h2, h3, fun h0 => ?_⟩;obtain ⟨g', o, cur, e1, e2, e3, e4⟩ := h4 h0;refine ⟨g', o, cur, e1, e2, ?_, e4⟩;rw [hs.block g' (Array.getElem?_eq_some_iff.1 e3).1 fun hk => ?_]
 ·exact e3
 ·subst hk;unfold Row at hr;rw [hr] at e3;injection e3 with e3;injection e3 with _ e3 _;exact hne e3.symm
theorem QY.keepG {B g : Nat} {e' : TypeId} {w w' : World} {v : Value} {cs : List Cel} {xs : List Value} (h : QY w B v cs) (hr : Row w g e' xs) (h1 : 64 ≠ e') (h2 : 69 ≠ e') (hs : Qa (fun k => k ≠ g) w w') : QY w' B v cs := by
 obtain ⟨us, u1, u2, u3⟩ := h;exact ⟨us, u1, u2.keepG hr h1 hs, fun i a b => (u3 i a b).keepG hr h2 hs⟩
section
variable {w w' : World} {B B' : Nat} {S S' : Nat → Prop} {vc vr vd : Value} {p : Ql}
theorem Qm.keepG {g : Nat} {xs : List Value} (h : Qm w B vc vr vd p) (hr : Row w g 77 xs) (hs : Qa (fun k => k ≠ g) w w') : Qm w' B vc vr vd p :=
 ⟨h.cells.keepG hr (by decide) (by decide) hs, h.recs.keepG hr (by decide) hs, h.done.keepG hr (by decide) hs, h.apart⟩
theorem Qm.keepRep {g : Nat} {xs : List Value} (h : Qm w B vc vr vd p) (hr : Row w g 85 xs) (hs : Qa (fun k => k ≠ g) w w') : Qm w' B vc vr vd p :=
 ⟨h.cells.keepG hr (by decide) (by decide) hs, h.recs.keepG hr (by decide) hs, h.done.keepG hr (by decide) hs, h.apart⟩
theorem Qm.upd {p' : Ql} (h : Qm w B vc vr vd p) (h1 : p'.cells = p.cells := by rfl) (h2 : p'.recs = p.recs := by rfl) (h3 : p'.done = p.done := by rfl) : Qm w B vc vr vd p' := ⟨by rw [h1]; exact h.cells, by rw [h2]; exact h.recs, by rw [h3]; exact h.done, h.apart⟩
theorem XE.keep (h : XE w S vc vr vd p) (hs : Qa S w w') : XE w' S vc vr vd p := ⟨h.cells.keep hs, Qw.keep h.recs hs, Qw.keep h.done hs⟩
theorem XE.keepAll (h : XE w S vc vr vd p) (hs : Qa (fun _ => True) w w') : XE w' S vc vr vd p := ⟨h.cells.keepAll hs, Qw.keepAll h.recs hs, Qw.keepAll h.done hs⟩
theorem Qm.keepAll (h : Qm w B vc vr vd p) (hs : Qa (fun _ => True) w w') : Qm w' B vc vr vd p := ⟨h.cells.keepAll hs, h.recs.keepAll hs, h.done.keepAll hs, h.apart⟩
theorem Qm.keep (h : Qm w B vc vr vd p) (hs : Qa S w w') (hS : ∀ k, B ≤ k → k < w.heap.size → S k) : Qm w' B vc vr vd p := ⟨h.cells.keep hs hS, h.recs.keep hs hS, h.done.keep hs hS, h.apart⟩
theorem Qm.lower (h : Qm w B vc vr vd p) (hb : B' ≤ B) : Qm w B' vc vr vd p := ⟨h.cells.lower hb, h.recs.lower hb, h.done.lower hb, h.apart⟩
theorem Qm.reads (h : Qm w B vc vr vd p) : XE w (fun k => B ≤ k) vc vr vd p := ⟨h.cells.reads, (Qg.wr h.recs).row Xq, (Qg.wr h.done).row Xq⟩
end
def Qbo (p : Ql) (w : World) (e : Ending) (w' : World) : Prop := ∃ vc vr vd, e = .returned (Qx vc vr vd p) ∧ Qm w' w.heap.size vc vr vd p ∧ Qa (fun _ => True) w w'
theorem YJ {W : World} {k : Nat} {vc vr vd : Value} {p : Ql} (R : Row W k 77 (Qb vc vr vd p)) {tmps : Array Value} (h2 : tmps.getD 2 undef = .pointer (some ⟨k, 0, none⟩)) :
  (results Try.f76 tmps).run Try.prog W = .ok (Qx vc vr vd p) W := by
 obtain ⟨d0, d1, d2, d3, d4, d5, d6, d7, d8⟩ := CN9 R;simp at h2;simp [results, Try.results76, h2, go_sem, d0, d1, d2, d3, d4, d5, d6, d7, d8]
set_option maxRecDepth 100000 in
set_option maxHeartbeats 4000000 in
theorem JJ (vc vr vd : Value) (p : Ql) (S : Nat → Prop) (w : World) (hv : XE w S vc vr vd p) (hn : X3 p) :
  Calls Try.prog 76 #[Qx vc vr vd p] w (Qbo p w) := by
 obtain ⟨hc, hr, hd⟩ := hv;obtain ⟨hn1, hn2, hr', hd'⟩ := hn;obtain ⟨Ac, cc, rfl, -, -⟩ := hc.form;obtain ⟨Ar, cr, rfl, -, -⟩ := Q5.form hr;obtain ⟨Ad, cd, rfl, -, -⟩ := Q5.form hd;have Hc := LH hc;have Hr := LH hr;have Hd := LH hd;have Hn2 := LH hn2;have r0 := (Row.new w 77 (Qb (.slice Ac p.cells.length cc) (.slice Ar p.recs.length cr) (.slice Ad p.done.length cd) p)).keep ((ST).alloc (.cells Qh.toArray 77)) tv;have r1 := Row.new (w.alloc (.cells (Qb (.slice Ac p.cells.length cc) (.slice Ar p.recs.length cr) (.slice Ad p.done.length cd) p).toArray 77)) 77 Qh;have hS0 := ((Qa.refl (fun _ => True) w).alloc (.cells (Qb (.slice Ac p.cells.length cc) (.slice Ar p.recs.length cr) (.slice Ad p.done.length cd) p).toArray 77)).alloc (.cells Qh.toArray 77);rw [World.size_alloc] at r1;have hr := hr';clear hc hd hn2 hr';go_enter Try.func76, Try.ntmps76;go_wp2_with (go_at_call 101; refine Qf ?_);unfold Hid;simp only [Qb, Qh] at r0 r1 hS0;revert r0 r1 hS0;generalize (w.alloc _).alloc _ = w1;intro r0 r1 hS0;have z0 := r1.lt;refine (QaQ (.slice Ac p.cells.length cc) p.cells S w1 (Hc.out.keepAll hS0) hn1 Hn2.out).mono ?_;rintro e w2 ⟨vc', rfl, hown, hS⟩;have r0 := r0.keep hS tv;have r1 := r1.keep hS tv;have R0 := LH r0;have R1 := LH r1;have HS := LH (hS0.trans hS);have z1 := r1.lt;have f6 := r0.frozen 6;have d6 := r0.cell 6;simp only [LG] at d6;have HC := LH hown;have hB1 := hS.size;obtain ⟨Av, cv, rfl, -, -⟩ := hown.form;clear hown hS hS0 r0 r1;go_wp2;have R0 := LH (R0.out.set_ 6 (.slice Av p.cells.length cv));have hSw : Qa (fun q => q ≠ w.heap.size) w2 (w2.setCell ⟨w.heap.size, 6, none⟩ (.slice Av p.cells.length cv)) := SR.setCell (fun _ h => h rfl) _;have R1 := LH (R1.out.keep hSw (by omega));have HS2 := LH (HS.out.trans' hSw fun i hi _ => by omega);have HC2 := LH (HC.out.keep hSw fun k h1 h2 => by omega);have hB2 := hSw.size;clear d6 f6;generalize w2.setCell _ _ = w3 at *;obtain ⟨B, hBe⟩ : ∃ B, B = w1.heap.size := ⟨_, rfl⟩;rw [← hBe] at HC2 hB1 z0;have hB2 : B ≤ w3.heap.size := by omega
 have Hr2 := LH (Qw.keepAll Hr.out HS2.out);have Hd2 := LH (Qw.keepAll Hd.out HS2.out);have m7 : w3.cell? ⟨w.heap.size, 7, none⟩ = some (.slice Ar p.recs.length cr) := R0.out.cell 7;have m8 : w3.cell? ⟨w.heap.size, 8, none⟩ = some (.slice Ad p.done.length cd) := R0.out.cell 8;have hr := hr;clear hBe hSw;refine QB (L := [.eq (.pointer (some ⟨w.heap.size, 7, none⟩)), .eq (.slice Ar p.recs.length cr), .of ⟨fun v w => Jo w B v p.recs, fun _ _ _ h k => h.keepAll k⟩, .eq (.pointer (some ⟨w.heap.size, 8, none⟩)), .eq (.slice Ad p.done.length cd), ⟨some 2, fun v u w => Jo w B v p.done ∧ ∀ k, v.ownBlock = some k → u.ownBlock ≠ some k, fun _ _ _ _ h k => ⟨h.1.keepAll k, h.2⟩⟩]) 6 5 (by omega) (by kernel_rfl) (by kernel_rfl) rfl rfl rfl rfl rfl rfl ?_ ?_ ?_
 ·refine ⟨?_, ?_, ?_, ?_, ?_, ?_, tv⟩
  all_goals intro ac wc hs hd hz hf hw K hK
  ·have e0 := EP 1 w.heap.size 0 (hf 1 rfl);clear hd hz hf hw;simp only [if_true, RL, e0];go_simp;exact hK _ _ rfl SR
  ·have e0 := EP 7 w.heap.size 7 (hw 0 rfl);have m0 := MC m7 hs tv;clear hd hz hf hw;simp only [if_true, RL, e0];go_simp;exact hK _ _ rfl SR
  ·have e0 := EV 8 (.slice Ar p.recs.length cr) (hw 1 rfl);clear hd hz hf hw;simp only [if_true, RL, e0];go_simp;refine (Ym (.slice Ar p.recs.length cr) p.recs S wc (Hr2.out.keepAll hs) hr).mono ?_;rintro e wd ⟨u, rfl, hown, hS⟩;exact hK _ _ (hown.lower (Nat.le_trans hB2 hs.size)) hS
  ·have e0 := EP 1 w.heap.size 0 (hf 1 rfl);clear hd hz hf hw;simp only [if_true, RL, e0];go_simp;exact hK _ _ rfl SR
  ·have e0 := EP 10 w.heap.size 8 (hw 3 rfl);have m0 := MC m8 hs tv;clear hd hz hf hw;simp only [if_true, RL, e0];go_simp;exact hK _ _ rfl SR
  ·have e0 := EV 11 (.slice Ad p.done.length cd) (hw 4 rfl);have pk : (⟨fun v w => Jo w B v p.recs, fun _ _ _ h k => h.keepAll k⟩ : SP).p (XX _ ac 2) wc := hw 2 rfl;clear hd hz hf hw;simp only [if_true, RL, e0];go_simp;refine (Ym (.slice Ad p.done.length cd) p.done S wc (Hd2.out.keepAll hs) hd').mono ?_;rintro e wd ⟨u, rfl, hown, hS⟩;exact hK _ _ ⟨hown.lower (Nat.le_trans hB2 hs.size), fun k h1 h2 => by have := (hown.lt k h1).1; have := (pk.lt k h2).2; omega⟩ hS
 ·intro vs wR hvl hvp hsR;obtain ⟨z0, z1, z2, z3, z4, z5, rfl⟩ := LN6 hvl
  ·obtain rfl : z0 = (.pointer (some ⟨w.heap.size, 7, none⟩)) := hvp 0 (by omega);obtain rfl : z1 = (.slice Ar p.recs.length cr) := hvp 1 (by omega);have hx1 : (⟨fun v w => Jo w B v p.recs, fun _ _ _ h k => h.keepAll k⟩ : SP).p z2 wR := hvp 2 (by omega);obtain rfl : z3 = (.pointer (some ⟨w.heap.size, 8, none⟩)) := hvp 3 (by omega);obtain rfl : z4 = (.slice Ad p.done.length cd) := hvp 4 (by omega);have hx2 : (fun v u w => Jo w B v p.done ∧ ∀ k, v.ownBlock = some k → u.ownBlock ≠ some k) z5 z2 wR := hvp 5 (by omega);clear hvl hvp;simp only [Qk, Act.put, LP, List.eraseIdx_cons_succ, List.eraseIdx_cons_zero];obtain ⟨A2, c2, rfl, -, -⟩ := Qg.form hx1;obtain ⟨A5, c5, rfl, -, -⟩ := Qg.form hx2.1;have X1 := LH hx1;have X2 := LH hx2.1;have XA := LH hx2.2;have HR := LH hsR;clear hx1 hx2;have r0_ := R0.out.keep hsR tv;have r1_ := R1.out.keep hsR tv;have d0 : wR.cell? ⟨w.heap.size, 0, none⟩ = some (.int .i64 p.epoch) := r0_.cell 0;have d1 : wR.cell? ⟨w.heap.size, 1, none⟩ = some (.int .i64 p.holder) := r0_.cell 1;have d2 : wR.cell? ⟨w.heap.size, 2, none⟩ = some (.int .i64 p.floor.wall) := r0_.cell 2;have d3 : wR.cell? ⟨w.heap.size, 3, none⟩ = some (.int .i64 p.floor.tie) := r0_.cell 3;have d4 : wR.cell? ⟨w.heap.size, 4, none⟩ = some (.int .i64 p.closed) := r0_.cell 4;have d5 : wR.cell? ⟨w.heap.size, 5, none⟩ = some (.int .i64 p.low) := r0_.cell 5;have d6 : wR.cell? ⟨w.heap.size, 6, none⟩ = some (.slice Av p.cells.length cv) := r0_.cell 6;have d7 : wR.cell? ⟨w.heap.size, 7, none⟩ = some (.slice Ar p.recs.length cr) := r0_.cell 7;have d8 : wR.cell? ⟨w.heap.size, 8, none⟩ = some (.slice Ad p.done.length cd) := r0_.cell 8;obtain ⟨e0, e1, e2, e3, e4, e5, e6, e7, e8⟩ := CN9 r1_;have f7 := r0_.frozen 7;have f8 := r0_.frozen 8;obtain ⟨g0, g1, g2, g3, g4, g5, g6, g7, g8⟩ := FN9 r1_;have z5 := r1_.lt;clear m7 m8;clear hsR r0_ r1_;go_wp2;have rq := R1.out.keep HR.out tv;have hq := ((Qa.refl (fun q => q ≠ w.heap.size) wR).setCell (p := ⟨w.heap.size, 7, none⟩) (fun _ h => h rfl) (.slice A2 p.recs.length c2)).setCell (p := ⟨w.heap.size, 8, none⟩) (fun _ h => h rfl) (.slice A5 p.done.length c5);have rq := (rq.keep hq (by omega)).sets (Qb (.slice Av p.cells.length cv) (.slice A2 p.recs.length c2) (.slice A5 p.done.length c5) p) 0;have hq2 := Qa.sets (S := fun q => q ≠ w.heap.size ∧ q ≠ w.heap.size + 1) (g := w.heap.size + 1) (fun h => h.2 rfl) (Qb (.slice Av p.cells.length cv) (.slice A2 p.recs.length c2) (.slice A5 p.done.length c5) p) 0 (hq.mono fun _ _ h => h.1);refine bodyPost_ret (YJ (show Row _ _ _ (Qb (.slice Av p.cells.length cv) (.slice A2 p.recs.length c2) (.slice A5 p.done.length c5) p) from rq) rfl) rfl ⟨_, _, _, rfl, ⟨?_, ?_, ?_, XA.out⟩, ?_⟩
   ·exact ((HC2.out.keepAll HR.out).keep hq2 fun k h1 h2 => by constructor <;> omega).lower (by omega)
   ·exact (Qg.keep X1.out hq2 fun k h1 h2 => by constructor <;> omega).lower (by omega)
   ·exact (Qg.keep X2.out hq2 fun k h1 h2 => by constructor <;> omega).lower (by omega)
   ·exact (HS2.out.trans HR.out).trans' hq2 fun k h1 h2 => by constructor <;> omega
 ·intro vs wR hvl hvp hsR;obtain ⟨z0, z1, z2, z3, z4, rfl⟩ := LN5 hvl
  ·obtain rfl : z0 = (.pointer (some ⟨w.heap.size, 7, none⟩)) := hvp 0 (by omega);obtain rfl : z1 = (.slice Ar p.recs.length cr) := hvp 1 (by omega);have hx1 : (⟨fun v w => Jo w B v p.recs, fun _ _ _ h k => h.keepAll k⟩ : SP).p z2 wR := hvp 2 (by omega);obtain rfl : z3 = (.pointer (some ⟨w.heap.size, 8, none⟩)) := hvp 3 (by omega);obtain rfl : z4 = (.slice Ad p.done.length cd) := hvp 4 (by omega);clear hvl hvp;simp only [Qk, Act.put, LP, List.eraseIdx_cons_succ, List.eraseIdx_cons_zero];obtain ⟨A2, c2, rfl, -, -⟩ := Qg.form hx1;have X1 := LH hx1;have HR := LH hsR;clear hx1;go_wp2_with (go_at_call 103; refine Qf ?_);unfold Hid;refine (Ym (.slice Ad p.done.length cd) p.done S wR (Hd2.out.keepAll HR.out) hd').mono ?_;rintro e w5 ⟨v5, rfl, hown5, hS5⟩;have hBR := HR.out.size;have XA := LH (show ∀ k, v5.ownBlock = some k → Value.ownBlock (.slice A2 p.recs.length c2) ≠ some k from fun k h1 h2 => by have := (hown5.lt k h1).1; have := (X1.out.lt k h2).2; omega);obtain ⟨A5, c5, rfl, -, -⟩ := Qg.form hown5;have X2 := LH (hown5.lower (B' := B) (by omega));have X1 := LH (X1.out.keepAll hS5);have HR := LH (HR.out.trans hS5);clear hown5 hS5 hsR;have r0_ := R0.out.keep HR.out tv;have r1_ := R1.out.keep HR.out tv;have d0 : w5.cell? ⟨w.heap.size, 0, none⟩ = some (.int .i64 p.epoch) := r0_.cell 0;have d1 : w5.cell? ⟨w.heap.size, 1, none⟩ = some (.int .i64 p.holder) := r0_.cell 1;have d2 : w5.cell? ⟨w.heap.size, 2, none⟩ = some (.int .i64 p.floor.wall) := r0_.cell 2;have d3 : w5.cell? ⟨w.heap.size, 3, none⟩ = some (.int .i64 p.floor.tie) := r0_.cell 3;have d4 : w5.cell? ⟨w.heap.size, 4, none⟩ = some (.int .i64 p.closed) := r0_.cell 4;have d5 : w5.cell? ⟨w.heap.size, 5, none⟩ = some (.int .i64 p.low) := r0_.cell 5;have d6 : w5.cell? ⟨w.heap.size, 6, none⟩ = some (.slice Av p.cells.length cv) := r0_.cell 6;have d7 : w5.cell? ⟨w.heap.size, 7, none⟩ = some (.slice Ar p.recs.length cr) := r0_.cell 7;have d8 : w5.cell? ⟨w.heap.size, 8, none⟩ = some (.slice Ad p.done.length cd) := r0_.cell 8;obtain ⟨e0, e1, e2, e3, e4, e5, e6, e7, e8⟩ := CN9 r1_;have f7 := r0_.frozen 7;have f8 := r0_.frozen 8;obtain ⟨g0, g1, g2, g3, g4, g5, g6, g7, g8⟩ := FN9 r1_;have z5 := r1_.lt;clear m7 m8;clear r0_ r1_;go_wp2;have rq := R1.out.keep HR.out tv;have hq := ((Qa.refl (fun q => q ≠ w.heap.size) w5).setCell (p := ⟨w.heap.size, 7, none⟩) (fun _ h => h rfl) (.slice A2 p.recs.length c2)).setCell (p := ⟨w.heap.size, 8, none⟩) (fun _ h => h rfl) (.slice A5 p.done.length c5);have rq := (rq.keep hq (by omega)).sets (Qb (.slice Av p.cells.length cv) (.slice A2 p.recs.length c2) (.slice A5 p.done.length c5) p) 0;have hq2 := Qa.sets (S := fun q => q ≠ w.heap.size ∧ q ≠ w.heap.size + 1) (g := w.heap.size + 1) (fun h => h.2 rfl) (Qb (.slice Av p.cells.length cv) (.slice A2 p.recs.length c2) (.slice A5 p.done.length c5) p) 0 (hq.mono fun _ _ h => h.1);refine bodyPost_ret (YJ (show Row _ _ _ (Qb (.slice Av p.cells.length cv) (.slice A2 p.recs.length c2) (.slice A5 p.done.length c5) p) from rq) rfl) rfl ⟨_, _, _, rfl, ⟨?_, ?_, ?_, XA.out⟩, ?_⟩
   ·exact ((HC2.out.keepAll HR.out).keep hq2 fun k h1 h2 => by constructor <;> omega).lower (by omega)
   ·exact (Qg.keep X1.out hq2 fun k h1 h2 => by constructor <;> omega).lower (by omega)
   ·exact (Qg.keep X2.out hq2 fun k h1 h2 => by constructor <;> omega).lower (by omega)
   ·exact (HS2.out.trans HR.out).trans' hq2 fun k h1 h2 => by constructor <;> omega
end Go.Proofs.Ytoldelocfmpccaa
