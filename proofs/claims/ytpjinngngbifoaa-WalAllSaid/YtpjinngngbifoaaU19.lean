/-
  Words, plain models, laws and walks that the claims of this layer share (joined by shake.py). No condition.
-/
import Derived.Laws.IdiomStrings
import Derived.BigQuiet
import Derived.Test.YtpjinngngbifoaaU1
import Derived.Test.YtpjinngngbifoaaU2
import Derived.Test.YtpjinngngbifoaaU3
import Derived.Test.YtpjinngngbifoaaU4
import Derived.Test.YtpjinngngbifoaaU5
import Derived.Test.YtpjinngngbifoaaU6
import Derived.Test.YtpjinngngbifoaaU7
import Derived.Test.YtpjinngngbifoaaU8
import Derived.Test.YtpjinngngbifoaaU9
import Derived.Test.YtpjinngngbifoaaU10
import Derived.Test.YtpjinngngbifoaaU11
import Derived.Test.YtpjinngngbifoaaU12
import Derived.Test.YtpjinngngbifoaaU13
import Derived.Test.YtpjinngngbifoaaU14
import Derived.Test.YtpjinngngbifoaaU15
import Derived.Test.YtpjinngngbifoaaU16
import Derived.Test.YtpjinngngbifoaaU17
import Derived.Test.YtpjinngngbifoaaU18
set_option linter.unusedSimpArgs false
set_option linter.unusedVariables false
namespace Go.Proofs.Ytpjinngngbifoaa
open Go.RowKit
/-- A disk under a call: k steps at most, no file longer than n. -/
structure Kept (d d' : DiskM) (n k : Nat) : Prop where
  len : Len d' n
  steps : d'.steps ≤ d.steps + k
  lives : d'.lives = d.lives
  armed : -1 ≤ d'.armed ∧ d'.armed ≤ 9223372036854775807
  unarmed : d.armed < 0 → d'.armed = d.armed
theorem Kept.refl {d : DiskM} {n : Nat} (h : Len d n) (ha : -1 ≤ d.armed ∧ d.armed ≤ 9223372036854775807) (k : Nat) : Kept d d n k := ⟨h, by omega, rfl, ha, fun _ => rfl⟩
theorem Kept.trans {a b c : DiskM} {n m j k : Nat} (h : Kept a b n j) (h2 : Kept b c m k) : Kept a c m (j + k) :=
  ⟨h2.len, by have := h.steps; have := h2.steps; omega, h2.lives.trans h.lives, h2.armed, fun hn => by have e := h.unarmed hn; rw [h2.unarmed (by omega), e]⟩
theorem step_kept {d : DiskM} {f : Int} {x : FileM} {n : Nat} (hf : F01 f) (h : Len d n) (ha : -1 ≤ d.armed ∧ d.armed ≤ 9223372036854775807) (hx : x.b.length ≤ n) : Kept d (d.step f x).2 n 1 := by
  rcases step_cases d x hf ha with ⟨e, h1⟩ | ⟨d', e, h1⟩
  · rw [e]
    exact ⟨fun f hf => by rw [off_file]; exact h f hf, by show d.steps ≤ _; omega, rfl, ha, fun _ => rfl⟩
  · rw [e]
    exact ⟨h1.len hf h hx, by rw [h1.steps]; exact Nat.le_refl _, h1.lives, h1.armed.2, h1.armed.1⟩
theorem append_kept {d : DiskM} {f : Int} {b : List UInt8} {n : Nat} (h : Len d n) (ha : -1 ≤ d.armed ∧ d.armed ≤ 9223372036854775807) (hx : (d.file f).b.length + b.length ≤ n) : Kept d (d.append f b).2 n 1 := by
  unfold DiskM.append
  split
  · exact Kept.refl h ha 1
  · rename_i hm
    exact step_kept (DiskM.may_zero (by simpa using hm)) h ha (by rw [List.length_append]; exact hx)
theorem sync_kept {d : DiskM} {f : Int} {n : Nat} (h : Len d n) (ha : -1 ≤ d.armed ∧ d.armed ≤ 9223372036854775807) : Kept d (d.sync f).2 n 1 := by
  unfold DiskM.sync
  split
  · exact Kept.refl h ha 1
  · rename_i hm
    have hf := DiskM.may_zero (d := d) (f := f) (by simpa using hm)
    exact step_kept hf h ha (h f hf)
theorem clear_kept {d : DiskM} {f : Int} {n : Nat} (h : Len d n) (ha : -1 ≤ d.armed ∧ d.armed ≤ 9223372036854775807) : Kept d (d.clear f).2 n 1 := by
  unfold DiskM.clear
  split
  · exact Kept.refl h ha 1
  · rename_i hm
    exact step_kept (DiskM.may_zero (by simpa using hm)) h ha (by simp)
theorem appendW_kept {d : DiskM} {l : WalM} {r : List UInt8} {n : Nat} (h : Len d n) (ha : -1 ≤ d.armed ∧ d.armed ≤ 9223372036854775807) (hx : (d.file l.f).b.length + (9 + r.length) ≤ n) : Kept d (appendW d l r).2.1 n 1 := by
  unfold appendW
  split
  · exact Kept.refl h ha 1
  · exact append_kept h ha (by rw [recF_len]; simp only [List.length_cons]; omega)
theorem syncW_kept {d : DiskM} {l : WalM} {n : Nat} (h : Len d n) (ha : -1 ≤ d.armed ∧ d.armed ≤ 9223372036854775807) : Kept d (syncW d l).2.1 n 1 := by
  unfold syncW
  split
  · exact Kept.refl h ha 1
  · exact sync_kept h ha
theorem rewriteW_kept {d : DiskM} {l : WalM} {rs : List (List UInt8)} {n : Nat} (h : Len d n) (ha : -1 ≤ d.armed ∧ d.armed ≤ 9223372036854775807) (hx : (fileW (l.gen + 1) rs).length ≤ n) : Kept d (rewriteW d l rs).2.1 n 3 := by
  unfold rewriteW
  split
  · exact Kept.refl h ha 3
  split
  · exact Kept.refl h ha 3
  have k1 := clear_kept (f := l.other) h ha
  have f1 := DiskM.clear_file (d := d) l.other_may
  rcases hX1 : d.clear l.other with ⟨x1, d1⟩
  rw [hX1] at k1 f1
  dsimp only at k1 f1 ⊢
  split
  · exact k1.trans (Kept.refl k1.len k1.armed 2)
  rename_i hx1
  have hb := f1 (by simpa using hx1)
  have k2 := append_kept (f := l.other) (b := fileW (l.gen + 1) rs) k1.len k1.armed (by rw [hb]; simpa using hx)
  rcases hX2 : d1.append l.other (fileW (l.gen + 1) rs) with ⟨x2, d2⟩
  rw [hX2] at k2
  dsimp only at k2 ⊢
  split
  · exact (k1.trans k2).trans (Kept.refl k2.len k2.armed 1)
  have k3 := sync_kept (f := l.other) k2.len k2.armed
  rcases hX3 : d2.sync l.other with ⟨x3, d3⟩
  rw [hX3] at k3
  dsimp only at k3 ⊢
  split
  · exact (k1.trans k2).trans k3
  · exact (k1.trans k2).trans k3
theorem look_total (b : List UInt8) : ∃ m, LookF b m := by
  have key : ∀ n l a, Reach b l a → b.length - a < n → ∃ l a, ScanF b l a := by
    intro n
    induction n with
    | zero => intro l a _ h; omega
    | succ n ih =>
      intro l a hr hn
      by_cases he : (nextF b a).2.2 = 0
      · obtain ⟨r, k, e, hx⟩ : ∃ r k e, nextF b a = (r, k, e) := ⟨_, _, _, rfl⟩
        rw [hx] at he
        have he : e = 0 := he
        subst he
        obtain ⟨h1, h2⟩ := nextF_nat hx
        subst h1
        exact ih _ _ (.snoc hr hx) (by omega)
      · exact ⟨l, a, hr, he⟩
  obtain ⟨l, a, h⟩ := key (b.length + 1) [] 0 .nil (by omega)
  exact ⟨_, l, a, h, rfl⟩
theorem pickK_len {d : DiskM} {m0 m1 : Option LookM} {n : Nat} (h0 : LookF d.f0.b m0) (h1 : LookF d.f1.b m1) (h : Len d n) (hn : 26 ≤ n) (g : Nat) : (fileW g (pickK d m0 m1 2).recs).length ≤ n := by
  have key : ∀ (x : PickM) (f : Int) (m : Option LookM) (b : List UInt8), (fileW g x.recs).length ≤ n → LookF b m → b.length ≤ n → (fileW g (x.look f m b.length).recs).length ≤ n := by
    intro x f m b hx hm hb
    cases m with
    | none => exact hx
    | some m =>
      have := hm.size
      by_cases hc : x.f < 0 ∨ x.gen < m.gen
      · rw [pick_take _ _ hc]; show (fileW g m.recs).length ≤ n; rw [fileW_len]; omega
      · rw [pick_keep _ _ hc]; exact hx
  exact key _ 1 m1 _ (key pick0 0 m0 _ (by show (fileW g []).length ≤ n; rw [fileW_len]; simpa using hn) h0 h.f0) h1 h.f1
theorem openW_kept {d : DiskM} {m0 m1 : Option LookM} {n : Nat} (h0 : LookF d.f0.b m0) (h1 : LookF d.f1.b m1) (h : Len d n) (hn : 26 ≤ n) (ha : -1 ≤ d.armed ∧ d.armed ≤ 9223372036854775807) : Kept d (openW d m0 m1).2.1 n 3 := by
  unfold openW
  split
  · exact Kept.refl h ha 3
  unfold openR
  have k := rewriteW_kept (l := walOf d (pickK d m0 m1 2)) (rs := (pickK d m0 m1 2).recs) h ha (pickK_len h0 h1 h hn _)
  split
  · split
    · exact k
    · exact k
  · exact Kept.refl h ha 3
end Go.Proofs.Ytpjinngngbifoaa
namespace Go.Proofs.Ytpjinngngbifoaa
open Go.RowKit
abbrev bl (s : ByteArray) : List UInt8 := s.data.toList
theorem bl_len (s : ByteArray) : (bl s).length = s.size := Array.length_toList
theorem bl_str (l : List UInt8) : bl (str l) = l := rfl
/-- A block of cells known whole, its mark behind the first q cells. -/
def RowQ (w : World) (g : Nat) (e : TypeId) (q : Nat) (xs : List Value) : Prop := w.heap[g]? = some (.cells xs.toArray e (q, q + 1))
section
variable {S : Nat → Prop} {w w' : World} {g q : Nat} {e : TypeId} {xs : List Value}
theorem RowQ.lt (h : RowQ w g e q xs) : g < w.heap.size := by
  rcases Nat.lt_or_ge g w.heap.size with hlt | hge
  · exact hlt
  · unfold RowQ at h; rw [Array.getElem?_eq_none hge] at h; cases h
theorem RowQ.cell (h : RowQ w g e q xs) (i : Nat) : w.cell? ⟨g, i, none⟩ = xs[i]? := by
  rw [cell_of_row w g i _ e _ h]; simp
theorem RowQ.frozen (h : RowQ w g e q xs) (i : Nat) (hi : i < q) : w.frozen? ⟨g, i, none⟩ = false := by
  unfold RowQ at h
  simp [World.frozen?, h]; omega
theorem RowQ.keep (h : RowQ w g e q xs) (hk : Same S w w') (hs : S g) : RowQ w' g e q xs := (hk.block g h.lt hs).trans h
theorem RowQ.set_ (h : RowQ w g e q xs) (i : Nat) (u : Value) : RowQ (w.setCell ⟨g, i, none⟩ u) g e q (xs.set i u) := by
  unfold RowQ at h ⊢
  simp [World.setCell, Array.getElem?_modify, h]
theorem RowQ.sl (h : RowQ w g e q xs) {n : Nat} (hn : n ≤ xs.length) : Sl w (fun k => k = g) 1 (some ⟨g, 0, none⟩) n (xs.take n) := by
  refine ⟨by simp; omega, fun _ => ⟨_, rfl, rfl, fun j u hu => ?_⟩⟩
  have e0 : (⟨g, 0, none⟩ : Addr).add j = ⟨g, j, none⟩ := by unfold Addr.add; split <;> simp_all
  rw [e0, h.cell]
  rw [List.getElem?_take] at hu
  split at hu
  · exact hu
  · cases hu
end
theorem wpList_conv2 {P : Program} {w w' : World} {ops : Array Oper} {rest : List Oper} {o : Oper} {a : Act} {Q : Exit → Act → World → Prop} (hgd : o.guard = none) {t u : TypeId} {x : Operand}
    (ho : o.op = .convert t u x) {v r : Value} (hx : a.eval x = v) (hr : (convert t u v).run P w = .ok r w') (h : wpList P ops Q rest (a.put o.dst r) w') : wpList P ops Q (o :: rest) a w := by
  refine wpList_plain hgd fun K hK => ?_
  unfold Oper.wp execOp
  simp only [ho, hx, hr, Sem.run_bind, Sem.run_pure, Result.andThen_ok]
  exact hK _ _ h
/-- '[]byte(s)': a row of its own, with room behind. -/
theorem wpList_bytes {P : Program} {w : World} {ops : Array Oper} {rest : List Oper} {o : Oper} {a : Act} {Q : Exit → Act → World → Prop} (hgd : o.guard = none) {t u e : TypeId} {x : Operand}
    (ho : o.op = .convert t u x) (hs : P.underlying t = some .string) (hd : P.underlying u = some (.slice e)) (he : P.underlying e = some (.int .u8)) (s : ByteArray) (hx : a.eval x = .string s) (hm : s.size ≤ maxLen)
    (h : ∀ (w' : World) (c q : Nat) (more : List Value), RowQ w' w.heap.size e q (cs8 (bl s) ++ more) → s.size ≤ q → s.size ≤ c → c ≤ maxLen → Same (fun _ => True) w w' → w.heap.size < w'.heap.size → wpList P ops Q rest (a.put o.dst (.slice (some ⟨w.heap.size, 0, none⟩) s.size c)) w') :
    wpList P ops Q (o :: rest) a w := by
  have hr := run_bytes_of_string (P := P) w t u e s hs hd he
  refine wpList_conv2 hgd ho hx hr ?_
  have hge := grownCap_ge w s.size 0 e
  have hle := grownCap_le_maxLen w s.size 0 e hm
  generalize grownCap w s.size 0 e = c at *
  have hsz : (bytesRow s c).size = s.size + (c - s.size) := by simp [bytesRow]
  refine h _ c (bytesRow s c).size (List.replicate (c - s.size) (.int .u8 0)) ?_ (by omega) hge hle (((Same.refl _ _).drew).alloc _) (by simp)
  have e1 : (cs8 (bl s) ++ List.replicate (c - s.size) (Value.int .u8 0)).toArray = bytesRow s c := by
    apply Array.toList_inj.1
    simp [bytesRow, cs8, V8, n8]
  unfold RowQ
  rw [e1]
  have := heap_alloc_new w.drew (.cells (bytesRow s c) e ((bytesRow s c).size, (bytesRow s c).size + 1))
  exact this
theorem RowQ.by_ {w : World} {g q c n : Nat} {e : TypeId} {l : List UInt8} {more : List Value} (h : RowQ w g e q (cs8 l ++ more)) (hn : l.length = n) (hc : n ≤ c) (hm : c ≤ maxLen) : By w (fun k => k = g) (.slice (some ⟨g, 0, none⟩) n c) l := by
  subst hn
  have h1 := h.sl (n := l.length) (by simp [cs8])
  rw [List.take_append_of_le_length (by simp [cs8]), List.take_of_length_le (by simp [cs8])] at h1
  exact ⟨_, c, rfl, hc, hm, h1⟩
/-- The conversion of bytes that read. -/
theorem By.conv {P : Program} {w : World} {S : Nat → Prop} {v : Value} {l : List UInt8} (src dst e : TypeId)
    (hs : P.underlying src = some (.slice e)) (he : P.underlying e = some (.int .u8)) (hd : P.underlying dst = some .string) (h : By w S v l) : (convert src dst v).run P w = .ok (.string (str l)) w := by
  obtain ⟨A, c, rfl, _, _, h⟩ := h
  exact conv_str c src dst e hs he hd h
end Go.Proofs.Ytpjinngngbifoaa
namespace Go.Proofs.Ytpjinngngbifoaa
open Go.RowKit
/-- What Open left, by the name of its answer. -/
theorem OpenPost.some {g r : Nat} {F : Nat → Prop} {w w' : World} {d' : DiskM} {l : WalM} {recs : List (List UInt8)} {e : Ending} (h : OpenPost g r F w (0, d', some (l, recs)) e w') :
    ∃ A c F', e = .returned (.tuple #[ptr w.heap.size, .slice A recs.length c, .int .i64 0]) ∧ (∀ k, F' k → F k ∨ w.heap.size ≤ k) ∧ ByL w' (fun q => w.heap.size + 1 < q) (.slice A recs.length c) recs ∧ LogAt w' w.heap.size g r F' d' l ∧ Same (fun k => k ≠ g ∧ k ≠ r) w w' := by
  obtain ⟨pv, A, n, c, rfl, ⟨F', hF, hm⟩, hs⟩ := h
  obtain ⟨rfl, rfl, h1, h2⟩ := hm
  exact ⟨A, c, F', rfl, hF, h1, h2, hs⟩
theorem Alive.fit {d : DiskM} {l : WalM} (h : Alive d l) (hs : d.steps < 1000000) : d.Fit := ⟨h.2.2.2, hs⟩
theorem ints_nil (w : World) (S : Nat → Prop) : Ints w S (.slice none 0 0) [] := ⟨none, 0, rfl, by simp, by simp [maxLen], Sl.nil _ _ _ _, by simp⟩
set_option maxRecDepth 100000 in
set_option maxHeartbeats 2000000 in
theorem walbegun_any (w : World) : Calls Try.prog 9 #[] w (TrueP w) := by
  have kc := conv_const
  obtain ⟨d1, l1, hopen, hg1, ha1, hu1, hs1, hv1, hgen1, hct1, hby1, hln1, hls1⟩ := open_new
  have HG1 := Lib.hid hg1
  have HOP := Lib.hid hopen
  obtain ⟨d2, hap, hd2⟩ : ∃ d', appendW d1 l1 [120] = (0, d', { l1 with count := l1.count + 1, bytes := l1.bytes + (9 + [120].length) }) ∧ Did d1 d' l1.f ⟨(d1.file l1.f).b ++ recF (82 :: [120]), (d1.file l1.f).last⟩ := by
    rcases append_good [120] ha1 hg1.f01 with ⟨h, h1⟩ | h
    · omega
    · exact h
  obtain ⟨l2, hl2⟩ : ∃ l2, l2 = { l1 with count := l1.count + 1, bytes := l1.bytes + (9 + [120].length) } := ⟨_, rfl⟩
  rw [← hl2] at hap
  have ha2 : Alive d2 l2 := ha1.did hd2 (by rw [hl2]) (by rw [hl2])
  have hg2 : Good d2 l1.f l1.gen [] ([] ++ [[120]]) := hg1.app (by simp) hd2
  have hf2 : l2.f = l1.f := by rw [hl2]
  have hu2 : d2.armed = d1.armed := hd2.armed.1 hu1
  obtain ⟨d3, hsy, hd3⟩ : ∃ d', syncW d2 l2 = (0, d', l2) ∧ Did d2 d' l2.f ⟨(d2.file l2.f).b, (d2.file l2.f).b.length⟩ := by
    rcases sync_good ha2 (by rw [hf2]; exact hg1.f01) with ⟨h, h1⟩ | h
    · omega
    · exact h
  rw [hf2] at hd3
  obtain ⟨hg3, hls3⟩ := hg2.syn hd3
  have ha3 : Alive d3 l2 := ha2.did hd3 rfl rfl
  have hr120 : (recF (82 :: [120])).length = 10 := by rw [recF_len]; rfl
  have hlen2 : Len d2 36 := hd2.len hg1.f01 (hln1.mono (by omega)) (by show ((d1.file l1.f).b ++ recF (82 :: [120])).length ≤ 36; rw [List.length_append, hr120]; have := hln1 _ hg1.f01; omega)
  have hlen3 : Len d3 36 := hd3.len hg1.f01 hlen2 (hlen2 _ hg1.f01)
  obtain ⟨d4, hd4⟩ : ∃ d4, d4 = d3.power [] := ⟨_, rfl⟩
  have hlen4 : Len d4 36 := by rw [hd4]; exact hlen3.power []
  obtain ⟨m0, hm0⟩ := look_total d4.f0.b
  obtain ⟨m1, hm1⟩ := look_total d4.f1.b
  obtain ⟨d5, l5, ho5, hop5, hu5, hst5, hlv5⟩ := hg3.reopen_all hls3 (by rw [hgen1]; decide) [] (by rw [← hd4]; exact hm0) (by rw [← hd4]; exact hm1)
  rw [← hd4] at ho5
  simp only [List.nil_append] at ho5
  have hst4 : d4.steps ≤ 5 := by
    rw [hd4]; show d3.steps ≤ 5
    rw [hd3.steps, hd2.steps]; omega
  have hst5' : d5.steps ≤ 20 := by rw [hd3.steps, hd2.steps] at hst5; omega
  have hov : l2.over d5 = true := by
    unfold WalM.over
    have : d5.lives ≠ l2.lives := by rw [hlv5, hd3.lives, hd2.lives, hl2]; show d1.lives + 1 ≠ l1.lives; rw [hv1]; have := ha1.2.2.1; omega
    simp [this]
  have hap5 : appendW d5 l2 [] = (6, d5, l2) := by unfold appendW; rw [if_pos hov]
  have hk5 := openW_kept hm0 hm1 hlen4 (by omega) (by rw [hd4]; exact ⟨Int.le_refl _, show (-1 : Int) ≤ _ by decide⟩)
  rw [ho5] at hk5
  have hk5 : Kept d4 d5 36 3 := hk5
  have hlen5 : (d5.file l2.f).b.length ≤ 1000 := by have := hk5.len l2.f (by rw [hf2]; exact hg1.f01); omega
  have hfit5 : d5.Fit := ⟨hk5.armed, by omega⟩
  have hfit1 : d1.Fit := ha1.fit (by omega)
  have hfit2 : d2.Fit := ha2.fit (by rw [hd2.steps]; omega)
  have hfit4 : d4.Fit := ⟨by rw [hd4]; exact ⟨Int.le_refl _, show (-1 : Int) ≤ _ by decide⟩, by omega⟩
  have hok3 : d3.Ok := by
    have h1 := hg3.last
    have h2 := hg3.low2
    rcases hg1.f01 with e | e
    · rw [e] at h1 h2; exact ⟨h1.2, h2, ha3.2.2.2⟩
    · rw [e] at h1 h2; exact ⟨h2, h1.2, ha3.2.2.2⟩
  have hlw : l1.Fit := ⟨by omega, by omega, by omega⟩
  have hlw2 : l2.Fit := ⟨by rw [hl2]; show l1.count + 1 ≤ _; omega, by rw [hl2]; show l1.bytes + 10 ≤ _; omega, by rw [hl2]; show l1.gen ≤ _; omega⟩
  have hlv3 : d3.lives < 1000000 := by rw [hd3.lives, hd2.lives]; omega
  have hb1f : (d1.file l1.f).b.length ≤ 26 := hln1 _ hg1.f01
  have A1 := Lib.hid hap
  have A2 := Lib.hid hsy
  have A3 := Lib.hid hd4
  have A4 := Lib.hid ho5
  have A5 := Lib.hid hap5
  have B1 := Lib.hid hf2
  have B3 := Lib.hid hlen3
  have B4 := Lib.hid hlen4
  have B5 := Lib.hid hm0
  have B6 := Lib.hid hm1
  clear hap hsy hd4 ho5 hap5 hf2 hov hl2 hgen1 hct1 hby1 hls1 hls3 hd2 hd3 hg1 hg2 hg3 ha1 ha2 ha3 hu1 hu2 hu5 hopen hop5 hlv5 hv1 hlen2 hlen3 hlen4 hm0 hm1 hk5 hst5 hst5' hs1 hln1 HG1
  go_enter Try.func9, Try.ntmps9
  go_wp2_with (go_at_call 12; refine (dnew_any _).mono ?_; rintro e w1 ⟨g, r, rfl, hg, hr, hD0, hS1⟩)
  have hopn := wopen_any g r _ DiskM.new none none _ hD0 ⟨by decide, by decide⟩ (by decide) look_nil look_nil (by decide) (by decide)
  rw [HOP.out] at hopn
  go_wp2_with (go_at_call 15; refine stopAt ?_)
  unfold Hid
  refine hopn.mono ?_
  intro e w2 hpost
  obtain ⟨Ar, cr, F1, rfl, hF1, hby1, hL1, hS2⟩ := hpost.some
  clear hpost hopn hby1
  have HL1 := Lib.hid hL1
  have HD := Lib.hid hD0
  have hzz : w1.heap.size ≤ w2.heap.size := hS2.size
  clear hL1 hD0
  have hB : Same (fun _ => True) w2 (w2.alloc (.cells #[.int .u8 120] 5 (1, 2))) := (Same.refl _ _).alloc _
  have happ := wappend_any w1.heap.size g r F1 (fun _ => True) d1 l1 _ [120] _ (HL1.out.keepAll hB) hfit1 (By.lit (fr := (1, 2)) (e := 5) (heap_now rfl) trivial rfl (Nat.le_refl 1) (by simp [maxLen])) (by simp) (by simp; omega) hlw
  rw [A1.out] at happ
  have HB := Lib.hid hB
  clear hB
  go_wp2_with (go_at_call 18; refine stopAt ?_)
  unfold Hid
  refine happ.mono ?_
  rintro e w3 ⟨rfl, ⟨F2, hF2, hL2⟩, hS3⟩
  have HL2 := Lib.hid hL2
  clear happ hL2
  have hsyn := wsync_any w1.heap.size g r F2 d2 l2 _ HL2.out hfit2
  rw [A2.out] at hsyn
  go_wp2_with (go_at_call 19; refine stopAt ?_)
  unfold Hid
  refine hsyn.mono ?_
  rintro e w4 ⟨rfl, ⟨F3, hF3, hL3⟩, hS4⟩
  have HL3 := Lib.hid hL3
  clear hsyn hL3
  have hpow := dpower_any g r F3 (fun _ => False) d3 [] (.slice none 0 0) w4 HL3.out.disk hok3 (ints_nil _ _) (fun k h => h.elim) (by have h0 := B3.out.f0; have h1 := B3.out.f1; omega) hlv3
  rw [← A3.out] at hpow
  go_wp2_with (go_at_call 20; refine stopAt ?_)
  unfold Hid
  refine hpow.mono ?_
  rintro e w5 ⟨rfl, hD4, hS5⟩
  have hwal5 : WalAt w5 w1.heap.size g l2 := HL3.out.wal.keep hS5 ⟨HL3.out.pg, HL3.out.pr⟩
  have hopn := wopen_any g r _ d4 m0 m1 _ hD4 hfit4 (by omega) B5.out B6.out (by have := B4.out.f0; omega) (by have := B4.out.f1; omega)
  rw [A4.out] at hopn
  have HW5 := Lib.hid hwal5
  have hzw5 := Row.lt hwal5
  clear hpow hD4 hwal5
  go_wp2_with (go_at_call 15; refine stopAt ?_)
  unfold Hid
  refine hopn.mono ?_
  intro e w6 hpost
  obtain ⟨Aq, cq, F4, rfl, hF4, hby6, hL6, hS6⟩ := hpost.some
  have hL6' : LogAt w6 w1.heap.size g r F4 d5 l2 := ⟨hL6.disk, HW5.out.keep hS6 ⟨HL3.out.pg, HL3.out.pr⟩, fun h => by
    rcases hF4 _ h with h | h
    · exact HL3.out.pF h
    · omega, HL3.out.pg, HL3.out.pr⟩
  have happ5 := wappend_any w1.heap.size g r F4 (fun _ => True) d5 l2 (.slice none 0 0) [] w6 hL6' hfit5 ⟨none, 0, rfl, by simp, by simp [maxLen], Sl.nil _ _ _ _⟩ (by simp) (by simp; omega) hlw2
  rw [A5.out] at happ5
  obtain ⟨ad, A7, c7, rfl, -, hck, hby7⟩ := hby6.at_ (k := 0) (by simp)
  have hcv : (convert 24 9 (.slice A7 1 c7)).run Try.prog w6 = .ok (.string ⟨#[120]⟩) w6 := conv_by hby7
  have hck : w6.cell? ad = some (.slice A7 1 c7) := by simpa [Addr.add] using hck
  have hlt7 := World.block_lt_of_cell? w6 ad hck
  have HS15 : Hid (Same (fun _ => True) w w6) := Lib.hid (by
    have z1 := hS1.size
    have z2 := hS2.size
    have z3 := hS3.size
    have z4 := hS4.size
    have z5 := hS5.size
    simp at z3
    exact (((((hS1.trans' hS2 fun k hk _ => by constructor <;> omega).trans HB.out).trans' hS3 fun k hk _ => ⟨by omega, by omega, by omega⟩).trans' hS4 fun k hk _ => ⟨by omega, by omega, by omega⟩).trans' hS5 fun k hk _ => by constructor <;> omega).trans' hS6 fun k hk _ => by constructor <;> omega)
  have hz15 := HS15.out.size
  have z1 := hS1.size
  clear hpost hopn hby6 hL6 hL6' hS2 hS3 hS4 hS5 hS6 hF1 hF2 hF3 hF4 hby7
  go_wp2_with (go_at_call 18; refine happ5.mono ?_; rintro e w7 ⟨rfl, -, hS7⟩)
  go_ret
  exact ⟨rfl, HS15.out.trans' hS7 fun k hk _ => ⟨by omega, by omega, by omega⟩⟩
end Go.Proofs.Ytpjinngngbifoaa
