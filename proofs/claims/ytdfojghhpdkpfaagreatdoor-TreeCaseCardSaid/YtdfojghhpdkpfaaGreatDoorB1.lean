/-
  Words, plain models, laws and walks that the claims of this layer share (joined by shake.py). No condition.
-/
import Derived.WalkKit
import Derived.WalkSpells
import Derived.WalkLawsBesides
import Derived.ProofKit
import Derived.OpenShut
import Derived.ChangeOld
import Derived.Below
import Derived.Carry
import Derived.Deep.Slices
import Derived.Maps.AppendAt
import Derived.Deep.AppendLies
import Derived.RegionTactic
import Derived.OwnWalk
import Derived.Lib.Hide
import Derived.Laws.CopyOwn
import Derived.Laws.BytesArg
import Derived.Lib.IndexMore
import Derived.Laws.IdiomStrings
import Derived.Test.YtdfojghhpdkpfaaGreatDoorRows
import Derived.Outline
import Derived.Deep.QuietTactic
import Derived.BigQuiet
import Derived.Shelf.Strings.Builder1
import Derived.Shelf.Strings.Builder2
import Derived.Shelf.Strings.OnBuilder
import Derived.Shelf.Strings.BuilderF
import Derived.Shelf.Strings.BuilderK
import Derived.Shelf.Utf8.RuneCount
import Derived.Shelf.Strings.Builder2Cap
import Derived.Shelf.Strconv.Itoa0
import Derived.Shelf.Strconv.Itoa1
import Derived.Shelf.LaysM
import Derived.Shelf.Strconv.Itoa2
import Derived.Shelf.Strconv.Itoa3
import Derived.Shelf.Strconv.Itoa4
import Derived.Shelf.Strings.Search1
import Derived.Shelf.Strings.Search2
import Derived.Shelf.Strings.Search3
import Derived.Shelf.Strings.Count
import Derived.Shelf.Strings.Shaped
import Derived.Shelf.Strings.Split
import Derived.Shelf.Strings.Replace
import Derived.Shelf.Strings.SplitShaped
import Derived.Shelf.Unicode.Decode
import Derived.Shelf.Strings.RuneCount
import Derived.Shelf.Unicode.DecodeSlow
import Derived.Shelf.Unicode.DecodeAny
import Derived.Shelf.Strings.BuilderCap
import Derived.Test.YtdfojghhpdkpfaaGreatDoorProg
import Derived.Orders
import Derived.StillTail
import Derived.Laws.StructEq
import Derived.Deep.CutRange
import Derived.Lib.AppendIntMem
import Derived.Deep.CutBlock
import Derived.Recover
import Derived.HandedShaped
import Derived.ChangeMaps5
import Derived.Lay
import Derived.Lib.LaidU8
import Derived.Lib.LaidTab
import Derived.Test.YtdfojghhpdkpfaaGreatDoorA9
import Derived.Test.YtdfojghhpdkpfaaGreatDoorA8
import Derived.Test.YtdfojghhpdkpfaaGreatDoorA7
import Derived.Test.YtdfojghhpdkpfaaGreatDoorA6
import Derived.Test.YtdfojghhpdkpfaaGreatDoorA5
import Derived.Test.YtdfojghhpdkpfaaGreatDoorA4
import Derived.Test.YtdfojghhpdkpfaaGreatDoorA3
import Derived.Test.YtdfojghhpdkpfaaGreatDoorA2
import Derived.Test.YtdfojghhpdkpfaaGreatDoorA12
import Derived.Test.YtdfojghhpdkpfaaGreatDoorA11
import Derived.Test.YtdfojghhpdkpfaaGreatDoorA10
import Derived.Test.YtdfojghhpdkpfaaGreatDoorA1
set_option linter.unusedSimpArgs false
set_option linter.unusedVariables false
namespace Go.Proofs.YtdfojghhpdkpfaaGreatDoor
theorem takeWhile_stop {p : UInt8 → Bool} {x : UInt8} (hp : p x = false) (b : List UInt8) : ∀ a : List UInt8, (a ++ x :: b).takeWhile p = a.takeWhile p
  | [] => by simp [List.takeWhile_cons, hp]
  | c :: a => by
    simp only [List.cons_append, List.takeWhile_cons]
    rw [takeWhile_stop hp b a]
theorem dropWhile_stop {p : UInt8 → Bool} {x : UInt8} (hp : p x = false) (b : List UInt8) : ∀ a : List UInt8, (a ++ x :: b).dropWhile p = a.dropWhile p ++ x :: b
  | [] => by simp [List.dropWhile_cons, hp]
  | c :: a => by
    simp only [List.cons_append, List.dropWhile_cons]
    split
    · exact dropWhile_stop hp b a
    · rfl
theorem tokF_blank {x : UInt8} (hx : isBlank x = true) (b : List UInt8) : tokF (x :: b) = ⟨⟨0, [], 0⟩, 1, 0⟩ := by simp [tokF, hx]
/-- A text's tokens do not hang on where it lies. -/
theorem lexFrom_at : ∀ (k : Nat) (s : List UInt8) (i : Nat), s.length ≤ k → lexFrom i s = ((lexFrom 0 s).1, (lexFrom 0 s).2.map fun x => (x.1 + i, x.2)) := by
  intro k
  induction k with
  | zero =>
    intro s i hl
    have : s = [] := List.eq_nil_of_length_eq_zero (by omega)
    subst this
    rw [lexFrom_nil, lexFrom_nil]; rfl
  | succ k ih =>
    intro s i hl
    by_cases hs : s = []
    · subst hs
      rw [lexFrom_nil, lexFrom_nil]; rfl
    · by_cases he : (tokF s).e = 0
      · have hp := tokF_pos he
        rw [lexFrom_go hs he, lexFrom_go (i := 0) hs he]
        rw [ih (s.drop (tokF s).n) (i + (tokF s).n) (by simp; omega), ih (s.drop (tokF s).n) (0 + (tokF s).n) (by simp; omega)]
        dsimp only
        split
        · rename_i h1
          simp only [h1, List.map_append, List.map_map, Function.comp_def, if_true]
          congr 1
          split
          · simp only [List.nil_append, List.map_nil]
            exact List.map_congr_left fun x _ => by rw [show x.1 + (i + (tokF s).n) = x.1 + (0 + (tokF s).n) + i from by omega]
          · simp only [List.map_cons, List.map_nil, Nat.zero_add]
            congr 1
            exact List.map_congr_left fun x _ => by rw [show x.1 + (i + (tokF s).n) = x.1 + (tokF s).n + i from by omega]
        · rename_i h1
          simp [h1]
      · rw [lexFrom_err hs he, lexFrom_err hs he]; rfl
theorem numGo_app : ∀ (a b : List UInt8) (v : Nat), numGo v (a ++ b) = (numGo v a).bind fun x => numGo x b
  | [], b, v => rfl
  | c :: a, b, v => by
    simp only [List.cons_append, numGo]
    split
    · rfl
    · exact numGo_app a b _
theorem dig_nat (d : Nat) (h : d < 10) : (UInt8.ofNat (48 + d)).toNat - 48 = d := by
  rw [UInt8.toNat_ofNat']; omega
theorem dig_is (d : Nat) (h : d < 10) : isDig (UInt8.ofNat (48 + d)) = true := by
  have : ∀ d : Fin 10, isDig (UInt8.ofNat (48 + d.val)) = true := by decide
  exact this ⟨d, h⟩
theorem digL_num : ∀ (k n : Nat), n ≤ k → n ≤ maxI → numGo 0 (digL n) = some n := by
  intro k
  induction k with
  | zero =>
    intro n hk hn
    have : n = 0 := by omega
    subst this
    unfold digL
    rfl
  | succ k ih =>
    intro n hk hn
    unfold digL
    split
    · rename_i h
      simp only [numGo, dig_nat n h]
      rw [if_neg (by omega)]
      simp
    · rename_i h
      rw [numGo_app, ih (n / 10) (by omega) (by omega)]
      simp only [Option.bind_some, numGo, dig_nat (n % 10) (by omega)]
      rw [if_neg (by omega)]
      congr 1
      omega
theorem digL_all : ∀ (k n : Nat), n ≤ k → (digL n).all isDig = true := by
  intro k
  induction k with
  | zero =>
    intro n hk
    have : n = 0 := by omega
    subst this
    unfold digL
    rfl
  | succ k ih =>
    intro n hk
    unfold digL
    split
    · rename_i h
      simp only [List.all_cons, List.all_nil, dig_is n h, Bool.and_self]
    · rename_i h
      rw [List.all_append, ih (n / 10) (by omega)]
      simp only [List.all_cons, List.all_nil, dig_is (n % 10) (by omega), Bool.and_self]
theorem digL_ne (n : Nat) : digL n ≠ [] := by
  unfold digL
  split <;> simp
theorem takeWhile_id {p : UInt8 → Bool} : ∀ {a : List UInt8}, a.all p = true → a.takeWhile p = a ∧ a.dropWhile p = []
  | [], _ => ⟨rfl, rfl⟩
  | c :: a, h => by
    simp only [List.all_cons, Bool.and_eq_true] at h
    obtain ⟨h1, h2⟩ := takeWhile_id h.2
    simp [List.takeWhile_cons, List.dropWhile_cons, h.1, h1, h2]
theorem takeWhile_all {p : UInt8 → Bool} {x : UInt8} (hp : p x = false) (b : List UInt8) {a : List UInt8} (ha : a.all p = true) : (a ++ x :: b).takeWhile p = a := by
  rw [takeWhile_stop hp]
  exact (takeWhile_id ha).1
theorem dropWhile_all {p : UInt8 → Bool} {x : UInt8} (hp : p x = false) (b : List UInt8) {a : List UInt8} (ha : a.all p = true) : (a ++ x :: b).dropWhile p = x :: b := by
  rw [dropWhile_stop hp]
  rw [(takeWhile_id ha).2]; rfl
theorem dig_word {c : UInt8} (h : isDig c = true) : isLet c = false ∧ isBlank c = false := by
  have key := u8_all (p := fun c => !isDig c || (!isLet c && !isBlank c)) (by decide +kernel) c
  simp [h] at key
  exact key
end Go.Proofs.YtdfojghhpdkpfaaGreatDoor
namespace Go.Proofs.YtdfojghhpdkpfaaGreatDoor
open Go.RowKit
mutual
def Ex.deep : Ex → Nat
  | .mk _ _ _ l => deepL l + 1
def deepL : List Ex → Nat
  | [] => 0
  | a :: l => max a.deep (deepL l)
end
section
variable {w w' : World} {S S' : Nat → Prop} {u : Value} {e : Ex} {l : List Ex}
end
def opTok (s : List UInt8) : Tok := if s = wOR ∨ s = wAND then tW s else tS s
def tokV (v : Val) : Tok := if v.kind = 1 then tW (if v.n = 1 then wTRUE else wFALSE) else if v.kind = 2 then ⟨2, [], v.n.toNat⟩ else if v.kind = 3 then ⟨3, v.s, 0⟩ else tW wNULL
def toksOp (k : Int) (s : List UInt8) (v : Val) (ts : List (List Tok)) : List Tok :=
  if k = 1 then [tokV v] else if k = 2 then [tW s] else
  match ts with
  | a :: r => if s = wISNULL then tS [40] :: (a ++ [tW wIS, tW wNULL]) ++ [tS [41]] else if s = wNOTNULL then tS [40] :: (a ++ [tW wIS, tW wNOT, tW wNULL]) ++ [tS [41]]
    else if s = wNOT then tS [40] :: (tW wNOT :: a) ++ [tS [41]] else if s = wNEG then tS [40] :: (tS [45] :: a) ++ [tS [41]]
    else match r with
      | b :: _ => tS [40] :: (a ++ opTok s :: b) ++ [tS [41]]
      | [] => []
  | [] => []
mutual
def toksE : Ex → List Tok
  | .mk k s v l => toksOp k s v (toksEs l)
def toksEs : List Ex → List (List Tok)
  | [] => []
  | a :: l => toksE a :: toksEs l
end
theorem rule_unary (n : Nat) (l : List PT) : ruleT (n + 1) .unary l =
    if isT [45] l then thenT (ruleT n .unary l.tail) fun d l1 => opT (hdT l).1 wNEG [d] l1
    else if isT [40] l then thenT (ruleT n .or l.tail) fun d l1 => thenT (mustT [[41]] l1) fun _ l2 => .ok (d, l2)
    else if (hdT l).2.kind = 2 then .ok (leafV ⟨2, (hdT l).2.n, []⟩, l.tail)
    else if (hdT l).2.kind = 3 then .ok (leafV ⟨3, 0, (hdT l).2.s⟩, l.tail)
    else if isT wTRUE l then .ok (leafV ⟨1, 1, []⟩, l.tail)
    else if isT wFALSE l then .ok (leafV ⟨1, 0, []⟩, l.tail)
    else if isT wNULL l then .ok (leafV ⟨0, 0, []⟩, l.tail)
    else thenT (nameT l) fun s l1 => .ok (⟨.mk 2 s .zero [], 1⟩, l1) := rfl
section
variable {k : Nat} {ts ta tb : List Tok} {d da db : Dp}
theorem Rd.paren (h : Rd k .or ts d) : Rd (k + 1) .unary (tS [40] :: ts ++ [tS [41]]) d := by
  intro n hn T R hT _
  obtain ⟨n, rfl⟩ : ∃ m, n = m + 1 := ⟨n - 1, by omega⟩
  obtain ⟨A, B, rfl, hA, hB⟩ := map_app (a := tS [40] :: ts) hT
  obtain ⟨p, A1, rfl, hA1⟩ := map_cons hA
  obtain ⟨q, B1, rfl, hB1⟩ := map_cons hB
  obtain rfl := map_nil hB1
  have h1 := h n (by omega) A1 ((q, tS [41]) :: R) hA1 (show aft .or (tS [41]) = true from by decide)
  have e : (p, tS [40]) :: A1 ++ [(q, tS [41])] ++ R = (p, tS [40]) :: (A1 ++ (q, tS [41]) :: R) := by simp
  have k1 : isK [45] (tS [40]) = false := by decide
  have k2 : isK [40] (tS [40]) = true := by decide
  have k3 : isK [41] (tS [41]) = true := by decide
  rw [e, rule_unary]
  simp only [isT_K, hdT_cons, List.tail_cons, k1, k2, Bool.false_eq_true, if_false, if_true, h1, thenT_ok, mustT, k3]
theorem chain_two {f : List PT → PR Dp} {signs : List (List UInt8)} {A B R : List PT} {p : Nat} {t : Tok} (h1 : f (A ++ (p, t) :: (B ++ R)) = .ok (da, (p, t) :: (B ++ R))) (h2 : f (B ++ R) = .ok (db, R)) (ht : beginsK signs t = true)
    (hR : beginsK signs (hdT R).2 = false) (hd : deepOf [da, db] ≤ 15) : runT f signs (A ++ (p, t) :: (B ++ R)) = .ok (opD t.s [da, db], R) := by
  unfold runT
  rw [h1, thenT_ok, List.length_cons]
  unfold chainT
  rw [begins_K, hdT_cons, if_pos ht, List.tail_cons, h2, thenT_ok, opT_ok hd, thenT_ok]
  exact chain_stop hR _ _
theorem opTok_s (s : List UInt8) : (opTok s).s = s := by unfold opTok; split <;> rfl
theorem Rd.bin {r q : Rl} {signs : List (List UInt8)} (hr : ∀ n l, ruleT (n + 1) r l = runT (ruleT n q) signs l) {t : Tok} (ht : beginsK signs t = true) (hq : aft q t = true) (hR : ∀ x, aft r x = true → aft q x = true ∧ beginsK signs x = false)
    (ha : Rd k q ta da) (hb : Rd k q tb db) (hd : deepOf [da, db] ≤ 15) : Rd (k + 1) r (ta ++ t :: tb) (opD t.s [da, db]) := by
  intro n hn T R hT hR'
  obtain ⟨n, rfl⟩ : ∃ m, n = m + 1 := ⟨n - 1, by omega⟩
  obtain ⟨A, B, rfl, hA, hB⟩ := map_app hT
  obtain ⟨p, B, rfl, hB1x⟩ := map_cons hB
  obtain ⟨h1, h2⟩ := hR _ hR'
  rw [hr, List.append_assoc, List.cons_append]
  exact chain_two (ha n (by omega) A _ hA (by rw [hdT_cons]; exact hq)) (hb n (by omega) B R hB1x h1) ht h2 hd
theorem kNC : beginsK cmpsT (tW wIS) = false := by decide
theorem kII : isK wIS (tW wIS) = true := by decide
theorem kNN : isK wNOT (tW wNULL) = false := by decide
theorem kUU : isK wNULL (tW wNULL) = true := by decide
theorem kOO : isK wNOT (tW wNOT) = true := by decide
theorem Rd.isnull (ha : Rd k .sum ta da) (hd : da.n ≤ 15) : Rd (k + 1) .cmp (ta ++ [tW wIS, tW wNULL]) (opD wISNULL [da]) := by
  intro n hn T R hT hR
  obtain ⟨n, rfl⟩ : ∃ m, n = m + 1 := ⟨n - 1, by omega⟩
  obtain ⟨A, B, rfl, hA, hB⟩ := map_app hT
  obtain ⟨p, B1, rfl, hB1⟩ := map_cons hB
  obtain ⟨q, B2, rfl, hB2⟩ := map_cons hB1
  obtain rfl := map_nil hB2
  have h0 := ha n (by omega) A ((p, tW wIS) :: (q, tW wNULL) :: R) hA (show aft .sum (tW wIS) = true from by decide)
  have e : A ++ [(p, tW wIS), (q, tW wNULL)] ++ R = A ++ (p, tW wIS) :: (q, tW wNULL) :: R := by simp
  rw [e, rule_cmp, h0, thenT_ok]
  simp only [begins_K, isT_K, hdT_cons, List.tail_cons, mustT, kNC, kII, kNN, kUU, Bool.false_eq_true, if_false, if_true, thenT_ok]
  exact opT_ok (by simp [deepOf, hd])
theorem Rd.notnull (ha : Rd k .sum ta da) (hd : da.n ≤ 15) : Rd (k + 1) .cmp (ta ++ [tW wIS, tW wNOT, tW wNULL]) (opD wNOTNULL [da]) := by
  intro n hn T R hT hR
  obtain ⟨n, rfl⟩ : ∃ m, n = m + 1 := ⟨n - 1, by omega⟩
  obtain ⟨A, B, rfl, hA, hB⟩ := map_app hT
  obtain ⟨p, B1, rfl, hB1⟩ := map_cons hB
  obtain ⟨q, B2, rfl, hB2⟩ := map_cons hB1
  obtain ⟨o, B3, rfl, hB3⟩ := map_cons hB2
  obtain rfl := map_nil hB3
  have h0 := ha n (by omega) A ((p, tW wIS) :: (q, tW wNOT) :: (o, tW wNULL) :: R) hA (show aft .sum (tW wIS) = true from by decide)
  have e : A ++ [(p, tW wIS), (q, tW wNOT), (o, tW wNULL)] ++ R = A ++ (p, tW wIS) :: (q, tW wNOT) :: (o, tW wNULL) :: R := by simp
  rw [e, rule_cmp, h0, thenT_ok]
  simp only [begins_K, isT_K, hdT_cons, List.tail_cons, mustT, kNC, kII, kOO, kUU, Bool.false_eq_true, if_false, if_true, thenT_ok]
  exact opT_ok (by simp [deepOf, hd])
theorem Rd.nots (ha : Rd k .not ta da) (hd : da.n ≤ 15) : Rd (k + 1) .not (tW wNOT :: ta) (opD wNOT [da]) := by
  intro n hn T R hT hR
  obtain ⟨n, rfl⟩ : ∃ m, n = m + 1 := ⟨n - 1, by omega⟩
  obtain ⟨p, A, rfl, hA1⟩ := map_cons hT
  rw [rule_not, List.cons_append, List.tail_cons, isT_K, hdT_cons, show isK wNOT (tW wNOT) = true from by decide, ha n (by omega) A R hA1 hR]
  simp only [if_true, thenT_ok]
  exact opT_ok (by simp [deepOf, hd])
theorem Rd.neg (ha : Rd k .unary ta da) (hd : da.n ≤ 15) : Rd (k + 1) .unary (tS [45] :: ta) (opD wNEG [da]) := by
  intro n hn T R hT hR
  obtain ⟨n, rfl⟩ : ∃ m, n = m + 1 := ⟨n - 1, by omega⟩
  obtain ⟨p, A, rfl, hA1⟩ := map_cons hT
  rw [rule_unary, List.cons_append, List.tail_cons, isT_K, hdT_cons, show isK [45] (tS [45]) = true from by decide, ha n (by omega) A R hA1 hR]
  simp only [if_true, thenT_ok]
  exact opT_ok (by simp [deepOf, hd])
theorem Rd.up (h : Rd k .unary ts d) (hN : NotNot ts) : Rd (k + 6) .or ts d := ((((h.prod.sum).cmp).not hN).and).or
end
theorem word_not {s t : List UInt8} (h : wordF s = true) (ht : wordF t = false) : ¬ s = t := by
  rintro rfl
  rw [h] at ht
  cases ht
theorem leaf_read {v : Val} (h : mayV v = true) (h0 : 0 ≤ v.n) : Rd 1 .unary [tokV v] (leafV v) := by
  intro n hn T R hT _
  obtain ⟨n, rfl⟩ : ∃ m, n = m + 1 := ⟨n - 1, by omega⟩
  obtain ⟨p, B, rfl, hB⟩ := map_cons hT
  obtain rfl := map_nil hB
  rw [rule_unary, List.cons_append, List.nil_append]
  obtain ⟨k, m, s⟩ := v
  rcases (mayV_iff _).1 h with ⟨h1, h2, h3⟩ | ⟨h1, h2, h3⟩ | ⟨h1, h2⟩ | ⟨h1, h2, h3⟩
  · dsimp only at h1 h2 h3; subst h1 h2 h3
    rfl
  · dsimp only at h1 h2 h3; subst h1 h3
    rcases h2 with rfl | rfl <;> rfl
  · dsimp only at h1 h2 h0; subst h1 h2
    have e : (m.toNat : Int) = m := Int.toNat_of_nonneg h0
    show Except.ok (leafV ⟨2, (m.toNat : Int), []⟩, R) = _
    rw [e]
  · dsimp only at h1 h2 h3; subst h1 h2
    rfl
theorem name_read {s : List UInt8} (h : wordF s = true) : Rd 1 .unary [tW s] ⟨.mk 2 s .zero [], 1⟩ := by
  intro n hn T R hT _
  obtain ⟨n, rfl⟩ : ∃ m, n = m + 1 := ⟨n - 1, by omega⟩
  obtain ⟨p, B, rfl, hB⟩ := map_cons hT
  obtain rfl := map_nil hB
  have k : ∀ t, wordF t = false → isT t ((p, tW s) :: R) = false := fun t ht => by
    rw [isT_K, hdT_cons]
    simp [isK, tW, word_not h ht]
  rw [rule_unary, List.cons_append, List.nil_append, k _ (by decide), k _ (by decide), k _ (by decide), k _ (by decide), k _ (by decide)]
  have e1 : (hdT ((p, tW s) :: R)).2 = tW s := rfl
  have e2 : namedT ((p, tW s) :: R) = true := by unfold namedT; rw [e1]; simp [tW, h]
  simp only [e1, Bool.false_eq_true, if_false]
  rw [if_neg (by simp [tW]), if_neg (by simp [tW])]
  unfold nameT
  rw [if_pos e2]
  rfl
theorem tokV_not (v : Val) : isK wNOT (tokV v) = false := by
  unfold tokV
  split
  · split <;> decide
  · split
    · simp [isK]
    · split
      · simp [isK]
      · decide
theorem toksOp_two {s : List UInt8} {v : Val} (h : argsN s = 2) (a b : List Tok) : toksOp 3 s v [a, b] = tS [40] :: (a ++ opTok s :: b) ++ [tS [41]] := by
  unfold toksOp
  rw [if_neg (by decide), if_neg (by decide)]
  simp only []
  rw [if_neg (args_ne h (by decide)), if_neg (args_ne h (by decide)), if_neg (args_ne h (by decide)), if_neg (args_ne h (by decide))]
theorem notNot_app {ts r : List Tok} (h : NotNot ts) : NotNot (ts ++ r) := by
  obtain ⟨t, r', e, h2⟩ := h
  exact ⟨t, r' ++ r, by rw [e]; rfl, h2⟩
theorem two_read {k : Nat} {ta tb : List Tok} {da db : Dp} {s : List UInt8} (hs : argsN s = 2) (ha : Rd k .unary ta da) (hb : Rd k .unary tb db) (hna : NotNot ta) (hnb : NotNot tb) (hd : deepOf [da, db] ≤ 15) :
    Rd (k + 7) .unary (tS [40] :: (ta ++ opTok s :: tb) ++ [tS [41]]) (opD s [da, db]) := by
  have hN : NotNot (ta ++ opTok s :: tb) := notNot_app hna
  suffices h : Rd (k + 6) .or (ta ++ opTok s :: tb) (opD (opTok s).s [da, db]) by rw [opTok_s] at h; exact h.paren
  have pr : ∀ t, beginsK [[42], [47], [37]] t = true → Rd (k + 1) .prod (ta ++ t :: tb) (opD t.s [da, db]) := fun t ht =>
    Rd.bin (fun n l => rfl) ht rfl (fun x hx => ⟨rfl, by simpa [aft] using hx⟩) ha hb hd
  have su : ∀ t, beginsK [[43], [45]] t = true → aft .prod t = true → Rd (k + 2) .sum (ta ++ t :: tb) (opD t.s [da, db]) := fun t ht hq =>
    Rd.bin (k := k + 1) (fun n l => rfl) ht hq (fun x hx => by simp only [aft, Bool.and_eq_true, Bool.not_eq_true'] at hx ⊢; exact hx) ha.prod hb.prod hd
  have cm : ∀ t, beginsK cmpsT t = true → aft .sum t = true → Rd (k + 3) .cmp (ta ++ t :: tb) (opD t.s [da, db]) := fun t ht hq =>
    Rd.rel (k := k + 2) ht hq ha.prod.sum hb.prod.sum hd
  have an : ∀ t, beginsK [wAND] t = true → aft .not t = true → Rd (k + 5) .and (ta ++ t :: tb) (opD t.s [da, db]) := fun t ht hq =>
    Rd.bin (k := k + 4) (fun n l => rfl) ht hq (fun x hx => by simp only [aft, Bool.and_eq_true, Bool.not_eq_true'] at hx ⊢; exact hx) (ha.prod.sum.cmp.not hna) (hb.prod.sum.cmp.not hnb) hd
  have orr : ∀ t, beginsK [wOR] t = true → aft .and t = true → Rd (k + 6) .or (ta ++ t :: tb) (opD t.s [da, db]) := fun t ht hq =>
    Rd.bin (k := k + 5) (fun n l => rfl) ht hq (fun x hx => by simp only [aft, Bool.and_eq_true, Bool.not_eq_true'] at hx ⊢; exact hx) (ha.prod.sum.cmp.not hna).and (hb.prod.sum.cmp.not hnb).and hd
  rcases args_two hs with rfl | rfl | rfl | rfl | rfl | rfl | rfl | rfl | rfl | rfl | rfl | rfl | rfl
  · exact orr _ (by decide) (by decide)
  · exact (an _ (by decide) (by decide)).or
  · exact (((cm _ (by decide) (by decide)).not hN).and).or
  · exact (((cm _ (by decide) (by decide)).not hN).and).or
  · exact (((cm _ (by decide) (by decide)).not hN).and).or
  · exact (((cm _ (by decide) (by decide)).not hN).and).or
  · exact (((cm _ (by decide) (by decide)).not hN).and).or
  · exact (((cm _ (by decide) (by decide)).not hN).and).or
  · exact (((su _ (by decide) (by decide)).cmp.not hN).and).or
  · exact (((su _ (by decide) (by decide)).cmp.not hN).and).or
  · exact (((pr _ (by decide)).sum.cmp.not hN).and).or
  · exact (((pr _ (by decide)).sum.cmp.not hN).and).or
  · exact (((pr _ (by decide)).sum.cmp.not hN).and).or
theorem notNot_paren (r : List Tok) : NotNot (tS [40] :: r) := ⟨_, _, rfl, by decide⟩
/-- An expression that may be is read as it was. -/
theorem expr_read : ∀ e : Ex, ∀ d, d ≤ 16 → mayE e d = true → Rd (8 * d) .unary (toksE e) ⟨e, e.deep⟩ ∧ NotNot (toksE e) ∧ e.deep ≤ d ∧ 1 ≤ d := by
  apply Ex.ind
  intro k s v l ih d hd h
  rw [mayE] at h
  by_cases h0 : d = 0
  · rw [if_pos h0] at h; cases h
  rw [if_neg h0] at h
  have hd1 : 1 ≤ d := by omega
  by_cases h1 : k = 1
  · subst h1
    simp only [if_true, Bool.and_eq_true, decide_eq_true_eq] at h
    obtain ⟨⟨⟨rfl, h2⟩, h3⟩, h4⟩ := h
    obtain rfl := List.eq_nil_of_length_eq_zero h2
    have e : toksE (.mk 1 [] v []) = [tokV v] := rfl
    rw [e]
    exact ⟨(leaf_read h3 h4).mono (by omega), ⟨_, _, rfl, tokV_not v⟩, by simp [Ex.deep, deepL]; omega, hd1⟩
  rw [if_neg h1] at h
  by_cases h2 : k = 2
  · subst h2
    simp only [if_true, Bool.and_eq_true, decide_eq_true_eq] at h
    obtain ⟨⟨rfl, h2⟩, h3⟩ := h
    obtain rfl := List.eq_nil_of_length_eq_zero h2
    have e : toksE (.mk 2 s .zero []) = [tW s] := rfl
    rw [e]
    exact ⟨(name_read h3).mono (by omega), ⟨_, _, rfl, by simp [isK, tW, word_not h3 (show wordF wNOT = false from by decide)]⟩, by simp [Ex.deep, deepL]; omega, hd1⟩
  rw [if_neg h2] at h
  simp only [Bool.and_eq_true, decide_eq_true_eq] at h
  obtain ⟨⟨⟨rfl, rfl⟩, h3⟩, h4⟩ := h
  have hm := mayEs_mem h4
  rcases args_range s with hs | hs | hs
  · obtain ⟨a, rfl⟩ : ∃ a, l = [a] := by
      match l, h3 with
      | [a], _ => exact ⟨a, rfl⟩
      | [], h3 => simp at h3; omega
      | a :: b :: r, h3 => simp at h3; omega
    obtain ⟨ra, na, da, pa⟩ := ih a (by simp) (d - 1) (by omega) (hm a (by simp))
    have hdp : (Ex.mk 3 s Val.zero [a]).deep = deepOf [⟨a, a.deep⟩] + 1 := by simp [Ex.deep, deepL, deepOf]
    have hde : (⟨.mk 3 s .zero [a], (Ex.mk 3 s Val.zero [a]).deep⟩ : Dp) = opD s [⟨a, a.deep⟩] := by rw [hdp]; rfl
    rw [hde]
    refine ⟨?_, ?_, by rw [hdp]; simp [deepOf]; omega, hd1⟩
    · rcases args_one hs with rfl | rfl | rfl | rfl
      · have h5 := ((ra.prod.sum.cmp.not na).nots (show a.deep ≤ 15 by omega)).and.or.paren
        exact h5.mono (by omega)
      · have h5 := (((ra.prod.sum.isnull (show a.deep ≤ 15 by omega)).not (notNot_app na)).and.or).paren
        exact h5.mono (by omega)
      · have h5 := (((ra.prod.sum.notnull (show a.deep ≤ 15 by omega)).not (notNot_app na)).and.or).paren
        exact h5.mono (by omega)
      · have h5 := ((ra.neg (show a.deep ≤ 15 by omega)).up ⟨_, _, rfl, by decide⟩).paren
        exact h5.mono (by omega)
    · rcases args_one hs with rfl | rfl | rfl | rfl <;> exact notNot_paren _
  · obtain ⟨a, b, rfl⟩ : ∃ a b, l = [a, b] := by
      match l, h3 with
      | [a, b], _ => exact ⟨a, b, rfl⟩
      | [], h3 => simp at h3; omega
      | [a], h3 => simp at h3; omega
      | a :: b :: c :: r, h3 => simp at h3; omega
    obtain ⟨ra, na, da, pa⟩ := ih a (by simp) (d - 1) (by omega) (hm a (by simp))
    obtain ⟨rb, nb, db, pb⟩ := ih b (by simp) (d - 1) (by omega) (hm b (by simp))
    have hdp : (Ex.mk 3 s Val.zero [a, b]).deep = deepOf [⟨a, a.deep⟩, ⟨b, b.deep⟩] + 1 := by simp [Ex.deep, deepL, deepOf]
    have hde : (⟨.mk 3 s .zero [a, b], (Ex.mk 3 s Val.zero [a, b]).deep⟩ : Dp) = opD s [⟨a, a.deep⟩, ⟨b, b.deep⟩] := by rw [hdp]; rfl
    have hte : toksE (.mk 3 s .zero [a, b]) = tS [40] :: (toksE a ++ opTok s :: toksE b) ++ [tS [41]] := toksOp_two hs _ _
    rw [hde, hte]
    refine ⟨?_, notNot_paren _, by rw [hdp]; simp [deepOf]; omega, hd1⟩
    exact (two_read hs ra rb na nb (by simp [deepOf]; omega)).mono (by omega)
  · rw [hs] at h3; omega
/-- It is read as an expression, if what follows lets it. -/
theorem expr_read_top {e : Ex} (h : mayE e 16 = true) {T R : List PT} (hT : T.map (·.2) = toksE e) (hR : aft .or (hdT R).2 = true) : exprT (T ++ R) = .ok (e, R) := by
  obtain ⟨h1, h2, -, -⟩ := expr_read e 16 (by omega) h
  unfold exprT
  rw [h1.up h2 200 (by omega) T R hT hR]
  rfl
theorem sameLot_refl (x : LotM) : sameLot x x = true := (sameLot_iff x x).2 rfl
theorem blank_zero {e : Ex} (h : blankE e = true) : e = .zero := (sameE_iff _ _).1 h
def joinK (sep : Tok) : List (List Tok) → List Tok
  | [] => []
  | [a] => a
  | a :: l => a ++ sep :: joinK sep l
theorem joinK_cons (sep : Tok) : ∀ (l : List (List Tok)) (a : List Tok), joinK sep (a :: l) = a ++ l.flatMap fun b => sep :: b
  | [], a => by simp [joinK]
  | b :: l, a => by
    rw [joinK, joinK_cons sep l b]
    · simp
    · intro h; cases h
def toksI (x : Itm) : List Tok := if x.kind = 1 then [tS [42]] else if x.kind = 3 then [tW wCOUNT, tS [40], tS [42], tS [41]] else if x.kind = 4 then tW wSUM :: tS [40] :: toksE x.e ++ [tS [41]] else toksE x.e
def toksA (x : Asn) : List Tok := tW x.name :: tS [61] :: toksE x.e
def toksR (r : List Ex) : List Tok := tS [40] :: joinK (tS [44]) (r.map toksE) ++ [tS [41]]
def tokN (n : Int) : Tok := ⟨2, [], n.toNat⟩
def headK (s : Stm) : List Tok :=
  if s.kind = 1 then tW wSELECT :: joinK (tS [44]) (s.items.map toksI) ++ [tW wFROM, tW s.table]
  else if s.kind = 2 then tW wINSERT :: tW wINTO :: tW s.table :: tW wVALUES :: joinK (tS [44]) (s.rows.map toksR)
  else if s.kind = 3 then tW wUPDATE :: tW s.table :: tW wSET :: joinK (tS [44]) (s.sets.map toksA)
  else [tW wDELETE, tW wFROM, tW s.table]
def whereK (s : Stm) : List Tok := if s.filt then tW wWHERE :: toksE s.cond else []
def orderK (s : Stm) : List Tok := (if s.order = [] then [] else [tW wORDER, tW wBY, tW s.order]) ++ if s.down then [tW wDESC] else []
def limitK (s : Stm) : List Tok := if s.kind = 1 ∧ 0 ≤ s.limit then [tW wLIMIT, tokN s.limit] else []
def toksS (s : Stm) : List Tok := headK s ++ (whereK s ++ (orderK s ++ limitK s))
def modeK (l : LotM) : List Tok := if l.mode = 1 then [tW wAS, tW wOF, tW wSYSTEM, tW wTIME, tokN l.n] else if l.mode = 2 then [tW wAS, tW wOF, tW wSYSTEM, tW wTIME, tW wBOUND, tokN l.n] else []
def toksLot (l : LotM) : List Tok := joinK (tS [59]) (l.stmts.map toksS) ++ modeK l
theorem sep_read {α : Type} {sep : Tok} {sp : List UInt8} (hsp : isK sp sep = true) {item : List PT → PR α} {toks : α → List Tok} {ok : Tok → Bool} (begins : List PT → Bool) (most : Nat) (hc : ok sep = true) :
    ∀ (zs : List α) (acc : List α) (k : Nat) (T R : List PT), (∀ a ∈ zs, ∀ T R, T.map (·.2) = toks a → ok (hdT R).2 = true → item (T ++ R) = .ok (a, R)) → zs.length ≤ k → acc.length + zs.length ≤ most →
      T.map (·.2) = (zs.flatMap fun a => sep :: toks a) → ok (hdT R).2 = true → isK sp (hdT R).2 = false → sepT (isT sp) item begins most k acc (T ++ R) = .ok (acc ++ zs, R)
  | [], acc, k, T, R, _, _, _, hT, _, hR => by
    obtain rfl := map_nil hT
    cases k with
    | zero => simp [sepT]
    | succ k =>
      unfold sepT
      rw [List.nil_append, isT_K, hR]
      simp
  | a :: zs, acc, k, T, R, hi, hk, hm, hT, hok, hR => by
    cases k with
    | zero => simp at hk
    | succ k =>
      rw [List.flatMap_cons, List.cons_append] at hT
      obtain ⟨p, T1, rfl, hT1⟩ := map_cons hT
      obtain ⟨A, B, rfl, hA, hB⟩ := map_app hT1
      have hnext : ok (hdT (B ++ R)).2 = true := by
        cases zs with
        | nil => obtain rfl := map_nil hB; exact hok
        | cons b zs =>
          rw [List.flatMap_cons, List.cons_append] at hB
          obtain ⟨q, B1, rfl, _⟩ := map_cons hB
          exact hc
      have h1 := hi a (by simp) A (B ++ R) hA hnext
      simp only [List.length_cons] at hm hk
      unfold sepT
      rw [isT_K, List.cons_append, hdT_cons, if_pos hsp, List.tail_cons, if_neg (by simp; omega), List.append_assoc, h1, thenT_ok,
        sep_read hsp begins most hc zs (acc ++ [a]) k B R (fun b hb => hi b (by simp [hb])) (by omega) (by simp; omega) hB hok hR]
      simp
theorem flatK_len {α : Type} {sep : Tok} {toks : α → List Tok} : ∀ (zs : List α), zs.length ≤ (zs.flatMap fun a => sep :: toks a).length
  | [] => by simp
  | a :: zs => by have := flatK_len (sep := sep) (toks := toks) zs; simp at this ⊢; omega
theorem list_read {α : Type} {item : List PT → PR α} {toks : α → List Tok} {ok : Tok → Bool} (begins : List PT → Bool) (most : Nat) (hc : ok (tS [44]) = true) {zs : List α} (h1 : 1 ≤ zs.length) (hm : zs.length ≤ most)
    (hi : ∀ a ∈ zs, ∀ T R, T.map (·.2) = toks a → ok (hdT R).2 = true → item (T ++ R) = .ok (a, R)) {T R : List PT} (hT : T.map (·.2) = joinK (tS [44]) (zs.map toks)) (hok : ok (hdT R).2 = true) (hR : isK [44] (hdT R).2 = false) :
    listT item begins most (T ++ R) = .ok (zs, R) := by
  cases zs with
  | nil => simp at h1
  | cons a zs =>
    rw [List.map_cons, joinK_cons, List.flatMap_map] at hT
    obtain ⟨A, B, rfl, hA, hB⟩ := map_app hT
    have hnext : ok (hdT (B ++ R)).2 = true := by
      cases zs with
      | nil => obtain rfl := map_nil hB; exact hok
      | cons b zs =>
        rw [List.flatMap_cons, List.cons_append] at hB
        obtain ⟨q, B1, rfl, _⟩ := map_cons hB
        exact hc
    have hl : zs.length ≤ (B ++ R).length := by
      have := flatK_len (sep := tS [44]) (toks := toks) zs
      rw [← hB, List.length_map] at this
      rw [List.length_append]
      omega
    unfold listT
    rw [List.append_assoc, hi a (by simp) A (B ++ R) hA hnext, thenT_ok]
    simp only [List.length_cons] at hm
    exact sep_read (by decide) begins most hc zs [a] _ B R (fun b hb => hi b (by simp [hb])) hl (by simp; omega) hB hok hR
theorem must_one {s : List UInt8} {p : Nat} {t : Tok} {R : List PT} (h : isK s t = true) : mustT [s] ((p, t) :: R) = .ok ((), R) := by
  unfold mustT
  rw [isT_K, hdT_cons, if_pos h]
  rfl
theorem must_more {s : List UInt8} {ss : List (List UInt8)} {p : Nat} {t : Tok} {R : List PT} (h : isK s t = true) : mustT (s :: ss) ((p, t) :: R) = mustT ss R := by
  conv => lhs; unfold mustT
  rw [isT_K, hdT_cons, if_pos h]
  rfl
theorem name_go {s : List UInt8} (h : wordF s = true) (p : Nat) (R : List PT) : nameT ((p, tW s) :: R) = .ok (s, R) := by
  unfold nameT
  have e : (hdT ((p, tW s) :: R)).2 = tW s := rfl
  rw [if_pos (by unfold namedT; rw [e]; simp [tW, h])]
  rfl
theorem int_go {n : Int} (h : 0 ≤ n) (p : Nat) (R : List PT) : ∃ m : Nat, (m : Int) = n ∧ intT ((p, tokN n) :: R) = .ok (m, R) := ⟨n.toNat, Int.toNat_of_nonneg h, rfl⟩
def okE (t : Tok) : Bool := aft .or t
theorem row_read {r : List Ex} (h : mayRow r = true) (T R : List PT) (hT : T.map (·.2) = toksR r) : rowT (T ++ R) = .ok (r, R) := by
  simp only [mayRow, Bool.and_eq_true, decide_eq_true_eq] at h
  obtain ⟨⟨h1, h2⟩, h3⟩ := h
  rw [List.all_eq_true] at h3
  obtain ⟨A, B, rfl, hA, hB⟩ := map_app (a := tS [40] :: joinK (tS [44]) (r.map toksE)) hT
  obtain ⟨p, A1, rfl, hA1⟩ := map_cons hA
  obtain ⟨q, B1, rfl, hB1⟩ := map_cons hB
  obtain rfl := map_nil hB1
  have e : (p, tS [40]) :: A1 ++ [(q, tS [41])] ++ R = (p, tS [40]) :: (A1 ++ (q, tS [41]) :: R) := by simp
  unfold rowT
  rw [e, must_one (by decide), thenT_ok, list_read (ok := okE) leadsT 6 (by decide) h1 h2 (fun a ha T R hT hR => expr_read_top (h3 a ha) hT hR) hA1 (R := (q, tS [41]) :: R) (show okE (tS [41]) = true from by decide) (show isK [44] (tS [41]) = false from by decide), thenT_ok, must_one (by decide)]
  rfl
theorem assign_read {x : Asn} (hn : wordF x.name = true) (he : mayE x.e 16 = true) (T R : List PT) (hT : T.map (·.2) = toksA x) (hR : okE (hdT R).2 = true) : assignT (T ++ R) = .ok (x, R) := by
  obtain ⟨p, A, rfl, hA⟩ := map_cons hT
  obtain ⟨q, B, rfl, hB⟩ := map_cons hA
  unfold assignT
  rw [List.cons_append, name_go hn, thenT_ok, List.cons_append, must_one (by decide), thenT_ok, expr_read_top he hB hR]
  rfl
/-- The first token of an expression is none of the words that begin something else. -/
theorem toksE_head {e : Ex} {n : Nat} (h : mayE e n = true) : ∃ t r, toksE e = t :: r ∧ ∀ s, wordF s = false → s ≠ [40] → s ≠ wTRUE → s ≠ wFALSE → s ≠ wNULL → isK s t = false := by
  obtain ⟨k, s, v, l⟩ := e
  rw [mayE] at h
  by_cases h0 : n = 0
  · rw [if_pos h0] at h; cases h
  rw [if_neg h0] at h
  by_cases h1 : k = 1
  · subst h1
    refine ⟨tokV v, [], rfl, fun x _ _ a b c => ?_⟩
    unfold tokV
    split
    · split
      · simp [isK, tW, Ne.symm a]
      · simp [isK, tW, Ne.symm b]
    · split
      · simp [isK]
      · split
        · simp [isK]
        · simp [isK, tW, Ne.symm c]
  rw [if_neg h1] at h
  by_cases h2 : k = 2
  · subst h2
    simp only [if_true, Bool.and_eq_true, decide_eq_true_eq] at h
    exact ⟨tW s, [], rfl, fun x hx _ _ _ _ => by simp [isK, tW, word_not h.2 hx]⟩
  rw [if_neg h2] at h
  simp only [Bool.and_eq_true, decide_eq_true_eq] at h
  obtain ⟨⟨⟨rfl, rfl⟩, h3⟩, h4⟩ := h
  have key : ∃ r, toksE (.mk 3 s .zero l) = tS [40] :: r := by
    rcases args_range s with hs | hs | hs
    · obtain ⟨a, rfl⟩ : ∃ a, l = [a] := by
        match l, h3 with
        | [a], _ => exact ⟨a, rfl⟩
        | [], h3 => simp at h3; omega
        | a :: b :: r, h3 => simp at h3; omega
      rcases args_one hs with rfl | rfl | rfl | rfl <;> exact ⟨_, rfl⟩
    · obtain ⟨a, b, rfl⟩ : ∃ a b, l = [a, b] := by
        match l, h3 with
        | [a, b], _ => exact ⟨a, b, rfl⟩
        | [], h3 => simp at h3; omega
        | [a], h3 => simp at h3; omega
        | a :: b :: c :: r, h3 => simp at h3; omega
      exact ⟨_, toksOp_two hs _ _⟩
    · rw [hs] at h3; omega
  obtain ⟨r, hr⟩ := key
  exact ⟨_, r, hr, fun x _ h40 _ _ _ => by simp [isK, tS, Ne.symm h40]⟩
theorem head_isT {T R : List PT} {t : Tok} {r : List Tok} (h : T.map (·.2) = t :: r) (s : List UInt8) : isT s (T ++ R) = isK s t := by
  obtain ⟨p, A, rfl, hA⟩ := map_cons h
  rfl
theorem item_read {m : Nat} {x : Itm} (h : mayI m x = true) (h1 : x.kind ≠ 1) (T R : List PT) (hT : T.map (·.2) = toksI x) (hR : okE (hdT R).2 = true) : itemT (T ++ R) = .ok (x, R) := by
  obtain ⟨k, e⟩ := x
  simp only [mayI, toksI] at h hT h1
  rw [if_neg h1] at h hT
  by_cases h3 : k = 3
  · rw [if_pos h3] at h hT
    subst h3
    obtain rfl := blank_zero h
    obtain ⟨a, T1, rfl, h1⟩ := map_cons hT
    obtain ⟨b, T2, rfl, h2⟩ := map_cons h1
    obtain ⟨c, T3, rfl, h3⟩ := map_cons h2
    obtain ⟨d, T4, rfl, h4⟩ := map_cons h3
    obtain rfl := map_nil h4
    rfl
  rw [if_neg h3] at h hT
  split at h
  · rename_i h24
    by_cases h4 : k = 4
    · rw [if_pos h4] at hT
      subst h4
      obtain ⟨A, B, rfl, hA, hB⟩ := map_app (a := tW wSUM :: tS [40] :: toksE e) hT
      obtain ⟨a, A1, rfl, hA1⟩ := map_cons hA
      obtain ⟨b, A2, rfl, hA2⟩ := map_cons hA1
      obtain ⟨q, B1, rfl, hB1⟩ := map_cons hB
      obtain rfl := map_nil hB1
      have ee : (a, tW wSUM) :: (b, tS [40]) :: A2 ++ [(q, tS [41])] ++ R = (a, tW wSUM) :: (b, tS [40]) :: (A2 ++ (q, tS [41]) :: R) := by simp
      have k1 : isK wCOUNT (tW wSUM) = false := by decide
      have k2 : isK wSUM (tW wSUM) = true := by decide
      unfold itemT
      rw [ee]
      simp only [isT_K, hdT_cons, k1, k2, Bool.false_eq_true, if_false, if_true, List.tail_cons]
      rw [must_one (by decide), thenT_ok, expr_read_top h hA2 (R := (q, tS [41]) :: R) (show okE (tS [41]) = true from by decide), thenT_ok, must_one (by decide)]
      rfl
    · rw [if_neg h4] at hT
      obtain rfl : k = 2 := by omega
      obtain ⟨t, r, ht, hk⟩ := toksE_head h
      unfold itemT
      rw [head_isT (hT.trans ht), head_isT (hT.trans ht), hk _ (by decide) (by decide) (by decide) (by decide) (by decide), hk _ (by decide) (by decide) (by decide) (by decide) (by decide)]
      simp only [Bool.false_eq_true, if_false]
      rw [expr_read_top h hT hR]
      rfl
  · cases h
theorem items_read {l : List Itm} (h : mayIs l = true) (T R : List PT) (hT : T.map (·.2) = joinK (tS [44]) (l.map toksI)) (hR : okE (hdT R).2 = true) (hc : isK [44] (hdT R).2 = false) : itemsT (T ++ R) = .ok (l, R) := by
  simp only [mayIs, Bool.and_eq_true, decide_eq_true_eq] at h
  obtain ⟨⟨h1, h2⟩, h3⟩ := h
  rw [List.all_eq_true] at h1
  cases l with
  | nil => simp at h2
  | cons x l =>
    have hx := h1 x (by simp)
    by_cases hk : x.kind = 1
    · have hx2 := hx
      simp only [mayI, if_pos hk, Bool.and_eq_true, decide_eq_true_eq] at hx2
      obtain ⟨hx3, hx4⟩ := hx2
      have hl : l = [] := by
        cases l with
        | nil => rfl
        | cons y l => simp at hx3
      subst hl
      obtain ⟨k, e⟩ := x
      dsimp only at hk hx4
      subst hk
      obtain rfl := blank_zero hx4
      have hT2 : T.map (·.2) = [tS [42]] := hT
      obtain ⟨p, A, rfl, hA⟩ := map_cons hT2
      obtain rfl := map_nil hA
      rfl
    · have hall : ∀ y ∈ x :: l, y.kind ≠ 1 := by
        intro y hy hy1
        have h4 := h1 y hy
        simp only [mayI, if_pos hy1, Bool.and_eq_true, decide_eq_true_eq] at h4
        have h5 := h4.1
        cases l with
        | nil => simp at hy; subst hy; exact hk hy1
        | cons z l => simp at h5
      have hstar : isT [42] (T ++ R) = false := by
        have hne : ∃ t r, T.map (·.2) = t :: r ∧ isK [42] t = false := by
          rw [List.map_cons, joinK_cons] at hT
          obtain ⟨k, e⟩ := x
          simp only [toksI] at hT hk
          rw [if_neg hk] at hT
          by_cases h3' : k = 3
          · rw [if_pos h3'] at hT; exact ⟨_, _, hT, by decide⟩
          rw [if_neg h3'] at hT
          by_cases h4 : k = 4
          · rw [if_pos h4] at hT; exact ⟨_, _, hT, by decide⟩
          rw [if_neg h4] at hT
          simp only [mayI, if_neg hk, if_neg h3'] at hx
          split at hx
          · obtain ⟨t, r, ht, hk2⟩ := toksE_head hx
            rw [ht] at hT
            exact ⟨_, _, hT, hk2 _ (by decide) (by decide) (by decide) (by decide) (by decide)⟩
          · cases hx
        obtain ⟨t, r, h4, h5⟩ := hne
        rw [head_isT h4]; exact h5
      unfold itemsT
      rw [hstar]
      simp only [Bool.false_eq_true, if_false]
      exact list_read (ok := okE) _ 6 (by decide) h2 h3 (fun a ha T R hT hR => item_read (h1 a ha) (hall a ha) T R hT hR) hT hR hc
theorem isT_at (s : List UInt8) (p : Nat) (t : Tok) (l : List PT) : isT s ((p, t) :: l) = isK s t := id rfl
theorem Fin'.fol {t : Tok} (h : Fin' t) : Fol t := .inr (.inr h)
theorem Fol.after {t : Tok} (h : Fol t) : aft .or t = true := Fol.of (p := _root_.Go.Proofs.YtdfojghhpdkpfaaGreatDoor.aft .or) (by decide) h
theorem Fol.okE {t : Tok} (h : Fol t) : okE t = true := h.after
theorem Fol.noComma {t : Tok} (h : Fol t) : isK [44] t = false := by simpa using Fol.of (p := fun t => !isK [44] t) (by decide) h
theorem Fol.noWhere {t : Tok} (h : Fol t) : isK wWHERE t = false := by simpa using Fol.of (p := fun t => !isK wWHERE t) (by decide) h
theorem hd_nil {T R : List PT} (h : T.map (·.2) = []) : T ++ R = R := by rw [map_nil h]; rfl
theorem hd_cons {T R : List PT} {t : Tok} {r : List Tok} (h : T.map (·.2) = t :: r) : (hdT (T ++ R)).2 = t := by
  obtain ⟨p, A, rfl, _⟩ := map_cons h
  rfl
theorem where_read {s s0 : Stm} (h : (if s.filt then mayE s.cond 16 else blankE s.cond) = true) (h0 : s0.filt = false ∧ s0.cond = .zero) (T R : List PT) (hT : T.map (·.2) = whereK s) (hR : Fol (hdT R).2) :
    whereT s0 (T ++ R) = .ok ({ s0 with filt := s.filt, cond := s.cond }, R) := by
  unfold whereK at hT
  by_cases hf : s.filt = true
  · rw [if_pos hf] at hT h
    obtain ⟨p, A, rfl, hA⟩ := map_cons hT
    unfold whereT
    rw [List.cons_append, isT_at, if_pos (by decide), List.tail_cons, expr_read_top h hA hR.after, thenT_ok, hf]
  · rw [if_neg hf] at hT h
    rw [hd_nil hT]
    unfold whereT
    rw [isT_K, hR.noWhere, blank_zero h]
    have hf' : s.filt = false := by simpa using hf
    rw [hf']
    obtain ⟨a, b, c, d, e, f, g, h, i, j⟩ := s0
    obtain ⟨rfl, rfl⟩ := h0
    rfl
theorem order_read {s s0 : Stm} (h : (s.order = [] ∧ s.down = false) ∨ wordF s.order = true) (h0 : s0.order = [] ∧ s0.down = false) (T R : List PT) (hT : T.map (·.2) = orderK s) (hR : (hdT R).2 = tW wLIMIT ∨ Fin' (hdT R).2) :
    orderT s0 (T ++ R) = .ok ({ s0 with order := s.order, down := s.down }, R) := by
  have key : ∀ w, wordF w = false → w = wORDER ∨ w = wDESC ∨ w = wASC → isK w (hdT R).2 = false := by
    intro w _ hw
    rcases hR with hR | hR | hR | hR <;> rw [hR] <;> rcases hw with rfl | rfl | rfl <;> decide
  unfold orderK at hT
  by_cases ho : s.order = []
  · obtain ⟨-, hd⟩ : s.order = [] ∧ s.down = false := by
      rcases h with h | h
      · exact h
      · rw [ho] at h; exact absurd h (by decide)
    rw [if_pos ho, hd] at hT
    rw [hd_nil hT]
    unfold orderT
    rw [isT_K, key _ (by decide) (.inl rfl), ho, hd]
    obtain ⟨a, b, c, d, e, f, g, h, i, j⟩ := s0
    obtain ⟨rfl, rfl⟩ := h0
    rfl
  · rw [if_neg ho] at hT
    have hw : wordF s.order = true := by
      rcases h with h | h
      · exact absurd h.1 ho
      · exact h
    obtain ⟨A, B, rfl, hA, hB⟩ := map_app hT
    obtain ⟨a, A1, rfl, hA1⟩ := map_cons hA
    obtain ⟨b, A2, rfl, hA2⟩ := map_cons hA1
    obtain ⟨c, A3, rfl, hA3⟩ := map_cons hA2
    obtain rfl := map_nil hA3
    have e : [(a, tW wORDER), (b, tW wBY), (c, tW s.order)] ++ B ++ R = (a, tW wORDER) :: (b, tW wBY) :: (c, tW s.order) :: (B ++ R) := by simp
    unfold orderT
    rw [e, isT_at, if_pos (by decide), List.tail_cons, must_one (by decide), thenT_ok, name_go hw, thenT_ok]
    by_cases hd : s.down = true
    · rw [if_pos hd] at hB
      obtain ⟨d, B1, rfl, hB1⟩ := map_cons hB
      obtain rfl := map_nil hB1
      rw [List.cons_append, isT_at, if_pos (by decide), hd]
      rfl
    · rw [if_neg hd] at hB
      have hd' : s.down = false := by simpa using hd
      rw [hd_nil hB, isT_K, key _ (by decide) (.inr (.inl rfl)), isT_K, key _ (by decide) (.inr (.inr rfl)), hd']
      rfl
theorem limit_read {s s0 : Stm} (hk : s.kind = 1) (h : -1 ≤ s.limit) (h0 : s0.limit = -1) (T R : List PT) (hT : T.map (·.2) = limitK s) (hR : Fin' (hdT R).2) : limitT s0 (T ++ R) = .ok ({ s0 with limit := s.limit }, R) := by
  unfold limitK at hT
  by_cases h1 : 0 ≤ s.limit
  · rw [if_pos ⟨hk, h1⟩] at hT
    obtain ⟨a, A1, rfl, hA1⟩ := map_cons hT
    obtain ⟨b, A2, rfl, hA2⟩ := map_cons hA1
    obtain rfl := map_nil hA2
    obtain ⟨m, hm, hi⟩ := int_go h1 b R
    unfold limitT
    rw [List.cons_append, isT_at, if_pos (by decide), List.tail_cons, List.cons_append, List.nil_append, hi, thenT_ok, hm]
  · rw [if_neg (fun h => h1 h.2)] at hT
    rw [hd_nil hT]
    unfold limitT
    have hn : isK wLIMIT (hdT R).2 = false := by simpa using Fin'.of (p := fun t => !isK wLIMIT t) (by decide) hR
    rw [isT_K, hn]
    have : s.limit = s0.limit := by omega
    rw [this]
    rfl
theorem limitK_head {s : Stm} {T R : List PT} (hT : T.map (·.2) = limitK s) (hR : Fin' (hdT R).2) : (hdT (T ++ R)).2 = tW wLIMIT ∨ Fin' (hdT (T ++ R)).2 := by
  unfold limitK at hT
  split at hT
  · exact .inl (hd_cons hT)
  · rw [hd_nil hT]; exact .inr hR
theorem orderK_head {s : Stm} (h : (s.order = [] ∧ s.down = false) ∨ wordF s.order = true) {T R : List PT} (hT : T.map (·.2) = orderK s) (hR : (hdT R).2 = tW wLIMIT ∨ Fin' (hdT R).2) : Fol (hdT (T ++ R)).2 := by
  unfold orderK at hT
  by_cases ho : s.order = []
  · obtain ⟨-, hd⟩ : s.order = [] ∧ s.down = false := by
      rcases h with h | h
      · exact h
      · rw [ho] at h; exact absurd h (by decide)
    rw [if_pos ho, hd] at hT
    rw [hd_nil hT]
    rcases hR with hR | hR
    · exact .inr (.inl hR)
    · exact hR.fol
  · rw [if_neg ho] at hT
    exact .inl (hd_cons hT)
theorem whereK_head {s : Stm} {T R : List PT} (hT : T.map (·.2) = whereK s) (hR : Fol (hdT R).2) : isK [44] (hdT (T ++ R)).2 = false ∧ okE (hdT (T ++ R)).2 = true ∧ isK [42] (hdT (T ++ R)).2 = false := by
  unfold whereK at hT
  split at hT
  · rw [hd_cons hT]; decide
  · rw [hd_nil hT]
    exact ⟨hR.noComma, hR.okE, by simpa using Fol.of (p := fun t => !isK [42] t) (by decide) hR⟩
theorem stmt_read {s : Stm} (h : mayS s = true) (T R : List PT) (hT : T.map (·.2) = toksS s) (hR : Fin' (hdT R).2) : stmtT (T ++ R) = .ok (s, R) := by
  simp only [mayS, Bool.and_eq_true] at h
  obtain ⟨⟨⟨⟨⟨hw, hcnd⟩, hsel⟩, hrow⟩, hset⟩, hk⟩ := h
  unfold toksS at hT
  obtain ⟨H, T1, rfl, hH, hT1⟩ := map_app hT
  obtain ⟨W, T2, rfl, hW, hT2⟩ := map_app hT1
  obtain ⟨O, L, rfl, hO, hL⟩ := map_app hT2
  have hLh := limitK_head hL hR
  have happ : H ++ (W ++ (O ++ L)) ++ R = H ++ (W ++ (O ++ (L ++ R))) := by simp
  rw [happ]
  unfold headK at hH
  by_cases h1 : s.kind = 1
  · rw [if_pos h1] at hH hk
    simp only [Bool.and_eq_true, Bool.or_eq_true, Bool.not_eq_true', decide_eq_true_eq] at hk
    obtain ⟨⟨hit, hord⟩, hlim⟩ := hk
    have hOh := orderK_head hord hO hLh
    have hWh := whereK_head hW hOh
    have hrows : s.rows = [] := by simpa [h1] using hrow
    have hsets : s.sets = [] := by simpa [h1] using hset
    obtain ⟨A, B, rfl, hA, hB⟩ := map_app (a := tW wSELECT :: joinK (tS [44]) (s.items.map toksI)) hH
    obtain ⟨a, A1, rfl, hA1⟩ := map_cons hA
    obtain ⟨b, B1, rfl, hB1⟩ := map_cons hB
    obtain ⟨c, B2, rfl, hB2⟩ := map_cons hB1
    obtain rfl := map_nil hB2
    have e : (a, tW wSELECT) :: A1 ++ [(b, tW wFROM), (c, tW s.table)] ++ (W ++ (O ++ (L ++ R))) = (a, tW wSELECT) :: (A1 ++ ((b, tW wFROM) :: (c, tW s.table) :: (W ++ (O ++ (L ++ R))))) := by simp
    unfold stmtT
    rw [e, isT_at, if_pos (by decide), List.tail_cons]
    unfold chooseT
    rw [items_read hit A1 ((b, tW wFROM) :: (c, tW s.table) :: (W ++ (O ++ (L ++ R)))) hA1 (show okE (tW wFROM) = true from by decide) (show isK [44] (tW wFROM) = false from by decide), thenT_ok, must_one (by decide), thenT_ok, name_go hw, thenT_ok,
      where_read hcnd ⟨rfl, rfl⟩ W _ hW hOh, thenT_ok, order_read hord ⟨rfl, rfl⟩ O _ hO hLh, thenT_ok, limit_read h1 hlim rfl L R hL hR]
    obtain ⟨k, t, is, rs, ss, f, cn, o, d, li⟩ := s
    dsimp only at h1 hrows hsets
    subst h1 hrows hsets
    rfl
  · rw [if_neg h1] at hH hk
    have hno : s.items = [] ∧ s.order = [] ∧ s.down = false ∧ s.limit = 0 := by
      simp only [Bool.or_eq_true, Bool.and_eq_true, decide_eq_true_eq, Bool.not_eq_true'] at hsel
      rcases hsel with h | h
      · exact absurd h h1
      · exact ⟨h.1.1.1, h.1.1.2, h.1.2, h.2⟩
    have hord : (s.order = [] ∧ s.down = false) ∨ wordF s.order = true := .inl ⟨hno.2.1, hno.2.2.1⟩
    have hO2 : O.map (·.2) = [] := by rw [hO]; unfold orderK; rw [if_pos hno.2.1, hno.2.2.1]; rfl
    have hL2 : L.map (·.2) = [] := by rw [hL]; unfold limitK; rw [if_neg (fun h => h1 h.1)]
    obtain rfl := map_nil hO2
    obtain rfl := map_nil hL2
    simp only [List.nil_append]
    have hWh := whereK_head hW hR.fol
    by_cases h2 : s.kind = 2
    · rw [if_pos h2] at hH hk
      simp only [Bool.and_eq_true, Bool.not_eq_true'] at hk
      obtain ⟨hr, hf⟩ := hk
      simp only [mayRows, Bool.and_eq_true, decide_eq_true_eq] at hr
      obtain ⟨⟨hr1, hr2⟩, hr3⟩ := hr
      rw [List.all_eq_true] at hr1
      have hsets : s.sets = [] := by simpa [h2] using hset
      have hW2 : W.map (·.2) = [] := by rw [hW]; unfold whereK; rw [hf]; rfl
      obtain rfl := map_nil hW2
      rw [hf] at hcnd
      have hcz := blank_zero hcnd
      obtain ⟨a, H1, rfl, hH1⟩ := map_cons hH
      obtain ⟨b, H2, rfl, hH2⟩ := map_cons hH1
      obtain ⟨c, H3, rfl, hH3⟩ := map_cons hH2
      obtain ⟨d, H4, rfl, hH4⟩ := map_cons hH3
      simp only [List.cons_append, List.nil_append]
      unfold stmtT
      rw [isT_at, if_neg (by decide), isT_at, if_pos (by decide), List.tail_cons]
      unfold insertT
      rw [must_one (by decide), thenT_ok, name_go hw, thenT_ok, must_one (by decide), thenT_ok,
        list_read (ok := fun _ => true) _ 16 rfl hr2 hr3 (fun r hr T R hT _ => row_read (hr1 r hr) T R hT) hH4 rfl hR.fol.noComma, thenT_ok]
      obtain ⟨k, t, is, rs, ss, f, cn, o, dn, li⟩ := s
      dsimp only at h2 hsets hno hf hcz
      obtain ⟨rfl, rfl, rfl, rfl⟩ := hno
      subst h2 hsets hf hcz
      rfl
    · rw [if_neg h2] at hH hk
      have hrows : s.rows = [] := by simpa [h2] using hrow
      by_cases h3 : s.kind = 3
      · rw [if_pos h3] at hH hk
        simp only [maySets, Bool.and_eq_true, decide_eq_true_eq] at hk
        obtain ⟨⟨hs1, hs2⟩, hs3⟩ := hk
        rw [List.all_eq_true] at hs3
        obtain ⟨a, H1, rfl, hH1⟩ := map_cons hH
        obtain ⟨b, H2, rfl, hH2⟩ := map_cons hH1
        obtain ⟨c, H3, rfl, hH3⟩ := map_cons hH2
        simp only [List.cons_append]
        unfold stmtT
        rw [isT_at, if_neg (by decide), isT_at, if_neg (by decide), isT_at, if_pos (by decide), List.tail_cons]
        unfold updateT
        rw [name_go hw, thenT_ok, must_one (by decide), thenT_ok,
          list_read (ok := okE) _ 6 (by decide) hs1 hs2 (fun x hx T R hT hR => by have := hs3 x hx; rw [Bool.and_eq_true] at this; exact assign_read this.1 this.2 T R hT hR) hH3 hWh.2.1 hWh.1, thenT_ok,
          where_read hcnd ⟨rfl, rfl⟩ W R hW hR.fol]
        obtain ⟨k, t, is, rs, ss, f, cn, o, dn, li⟩ := s
        dsimp only at h3 hrows hno
        obtain ⟨rfl, rfl, rfl, rfl⟩ := hno
        subst h3 hrows
        rfl
      · rw [if_neg h3] at hH hk
        have h4 : s.kind = 4 := by simpa using hk
        have hsets : s.sets = [] := by simpa [h3] using hset
        obtain ⟨a, H1, rfl, hH1⟩ := map_cons hH
        obtain ⟨b, H2, rfl, hH2⟩ := map_cons hH1
        obtain ⟨c, H3, rfl, hH3⟩ := map_cons hH2
        obtain rfl := map_nil hH3
        simp only [List.cons_append, List.nil_append]
        unfold stmtT
        rw [isT_at, if_neg (by decide), isT_at, if_neg (by decide), isT_at, if_neg (by decide)]
        unfold deleteT
        rw [must_more (by decide), must_one (by decide), thenT_ok, name_go hw, thenT_ok, where_read hcnd ⟨rfl, rfl⟩ W R hW hR.fol]
        obtain ⟨k, t, is, rs, ss, f, cn, o, dn, li⟩ := s
        dsimp only at h4 hrows hsets hno
        obtain ⟨rfl, rfl, rfl, rfl⟩ := hno
        subst h4 hrows hsets
        rfl
/-- What a statement begins with. -/
theorem toksS_head (s : Stm) (h : mayS s = true) : ∃ t r, toksS s = t :: r ∧ beginsK [wSELECT, wINSERT, wUPDATE, wDELETE] t = true := by
  unfold toksS headK
  split
  · exact ⟨_, _, rfl, by decide⟩
  · split
    · exact ⟨_, _, rfl, by decide⟩
    · split
      · exact ⟨_, _, rfl, by decide⟩
      · exact ⟨_, _, rfl, by decide⟩
theorem stmts_read : ∀ (ss acc : List Stm) (k : Nat) (T R : List PT), (∀ s ∈ ss, mayS s = true) → ss.length ≤ k → acc.length + ss.length ≤ 8 → T.map (·.2) = (ss.flatMap fun s => tS [59] :: toksS s) → ((hdT R).2 = tW wAS ∨ (hdT R).2 = tE) →
    stmtsT k acc (T ++ R) = .ok (acc ++ ss, R)
  | [], acc, k, T, R, _, _, _, hT, hR => by
    obtain rfl := map_nil hT
    cases k with
    | zero => simp [stmtsT]
    | succ k =>
      unfold stmtsT
      have : isT [59] R = false := by rw [isT_K]; rcases hR with hR | hR <;> rw [hR] <;> decide
      rw [List.nil_append, this]
      simp
  | s :: ss, acc, k, T, R, hm, hk, hl, hT, hR => by
    cases k with
    | zero => simp at hk
    | succ k =>
      rw [List.flatMap_cons, List.cons_append] at hT
      obtain ⟨p, T1, rfl, hT1⟩ := map_cons hT
      obtain ⟨A, B, rfl, hA, hB⟩ := map_app hT1
      have hms := hm s (by simp)
      have hnext : Fin' (hdT (B ++ R)).2 := by
        cases ss with
        | nil =>
          rw [hd_nil hB]
          rcases hR with hR | hR
          · exact .inr (.inl hR)
          · exact .inr (.inr hR)
        | cons b ss =>
          rw [List.flatMap_cons, List.cons_append] at hB
          exact .inl (hd_cons hB)
      obtain ⟨t, r, ht, hb⟩ := toksS_head s hms
      have hst : startsT (A ++ (B ++ R)) = true := by
        unfold startsT
        rw [begins_K, hd_cons (hA.trans ht)]
        exact hb
      simp only [List.length_cons] at hl hk
      unfold stmtsT
      rw [List.cons_append, isT_at, if_pos (by decide), List.tail_cons, List.append_assoc, if_pos hst, if_neg (by omega), stmt_read hms A _ hA hnext, thenT_ok,
        stmts_read ss (acc ++ [s]) k B R (fun x hx => hm x (by simp [hx])) (by omega) (by simp; omega) hB hR]
      simp
/-- The tokens of a lot that may be are read as it. -/
theorem lot_read {l : LotM} (h : mayLot l = true) (T : List PT) (p : Nat) (hT : T.map (·.2) = toksLot l) : lotP (T ++ [(p, tE)]) = .ok (l, [(p, tE)]) := by
  simp only [mayLot, Bool.and_eq_true, Bool.or_eq_true, decide_eq_true_eq] at h
  obtain ⟨⟨⟨⟨⟨⟨hm0, hm2⟩, hn⟩, hnow⟩, hs1⟩, hs8⟩, hall⟩ := h
  rw [List.all_eq_true] at hall
  obtain ⟨mode, n, ss⟩ := l
  dsimp only at hm0 hm2 hn hnow hs1 hs8 hall
  cases ss with
  | nil => simp at hs1
  | cons s ss =>
    unfold toksLot at hT
    rw [List.map_cons, joinK_cons, List.flatMap_map] at hT
    obtain ⟨T1, M, rfl, hT1, hM⟩ := map_app hT
    obtain ⟨A, B, rfl, hA, hB⟩ := map_app hT1
    unfold modeK at hM
    dsimp only at hM
    have hRm : (hdT (M ++ [(p, tE)])).2 = tW wAS ∨ (hdT (M ++ [(p, tE)])).2 = tE := by
      by_cases h1 : mode = 1
      · rw [if_pos h1] at hM; exact .inl (hd_cons hM)
      · rw [if_neg h1] at hM
        by_cases h2 : mode = 2
        · rw [if_pos h2] at hM; exact .inl (hd_cons hM)
        · rw [if_neg h2] at hM; rw [hd_nil hM]; exact .inr rfl
    have hnext : Fin' (hdT (B ++ (M ++ [(p, tE)]))).2 := by
      cases ss with
      | nil =>
        rw [hd_nil hB]
        rcases hRm with hR | hR
        · exact .inr (.inl hR)
        · exact .inr (.inr hR)
      | cons b ss =>
        rw [List.flatMap_cons, List.cons_append] at hB
        exact .inl (hd_cons hB)
    have hl : ss.length ≤ (B ++ (M ++ [(p, tE)])).length := by
      have := flatK_len (sep := tS [59]) (toks := toksS) ss
      rw [← hB, List.length_map] at this
      rw [List.length_append]
      omega
    have hsr := stmts_read ss [s] (B ++ (M ++ [(p, tE)])).length B (M ++ [(p, tE)]) (fun x hx => hall x (by simp [hx])) hl (by simp at hs8 ⊢; omega) hB hRm
    unfold lotP
    rw [show A ++ B ++ M ++ [(p, tE)] = A ++ (B ++ (M ++ [(p, tE)])) from by simp, stmt_read (hall s (by simp)) A _ hA hnext, thenT_ok, hsr, thenT_ok]
    have ha : asofT ([s] ++ ss) (M ++ [(p, tE)]) = .ok (⟨mode, n, s :: ss⟩, [(p, tE)]) := by
      unfold asofT
      by_cases h1 : mode = 1
      · rw [if_pos h1] at hM
        obtain ⟨a, M1, rfl, hM1⟩ := map_cons hM
        obtain ⟨b, M2, rfl, hM2⟩ := map_cons hM1
        obtain ⟨c, M3, rfl, hM3⟩ := map_cons hM2
        obtain ⟨d, M4, rfl, hM4⟩ := map_cons hM3
        obtain ⟨e, M5, rfl, hM5⟩ := map_cons hM4
        obtain rfl := map_nil hM5
        obtain ⟨m, hm, hi⟩ := int_go hn e [(p, tE)]
        simp only [List.cons_append, List.nil_append]
        have kb : isT wBOUND ((e, tokN n) :: [(p, tE)]) = false := by rw [isT_at]; simp [isK, tokN]
        rw [isT_at, if_pos (by decide), List.tail_cons, must_more (by decide), must_more (by decide), must_one (by decide), thenT_ok, kb, hi]
        simp only [Bool.false_eq_true, if_false, thenT_ok, hm, h1]
      · rw [if_neg h1] at hM
        by_cases h2 : mode = 2
        · rw [if_pos h2] at hM
          obtain ⟨a, M1, rfl, hM1⟩ := map_cons hM
          obtain ⟨b, M2, rfl, hM2⟩ := map_cons hM1
          obtain ⟨c, M3, rfl, hM3⟩ := map_cons hM2
          obtain ⟨d, M4, rfl, hM4⟩ := map_cons hM3
          obtain ⟨e, M5, rfl, hM5⟩ := map_cons hM4
          obtain ⟨f, M6, rfl, hM6⟩ := map_cons hM5
          obtain rfl := map_nil hM6
          obtain ⟨m, hm, hi⟩ := int_go hn f [(p, tE)]
          simp only [List.cons_append, List.nil_append]
          rw [isT_at, if_pos (by decide), List.tail_cons, must_more (by decide), must_more (by decide), must_one (by decide), thenT_ok, isT_at, if_pos (by decide), List.tail_cons, hi, thenT_ok, hm, h2]
        · rw [if_neg h2] at hM
          have hz : mode = 0 := by omega
          have hn0 : n = 0 := by rcases hnow with h | h
                                 · exact absurd hz h
                                 · exact h
          rw [hd_nil hM, isT_K, show (hdT [(p, tE)]).2 = tE from rfl, show isK wAS tE = false from by decide, hz, hn0]
          rfl
    rw [ha, thenT_ok]
    rfl
theorem caseT_app : ∀ (a b : List UInt8) (f : Nat → Bool) (q : Bool), caseT f q (a ++ b) = ((caseT f q a).1 ++ (caseT (fun i => f (i + a.length)) (caseT f q a).2 b).1, (caseT (fun i => f (i + a.length)) (caseT f q a).2 b).2)
  | [], b, f, q => by simp [caseT]
  | c :: a, b, f, q => by
    have e : ∀ i, i + a.length + 1 = i + (a.length + 1) := fun i => by omega
    simp only [List.cons_append, caseT, caseT_app a b, List.length_cons, e]
    simp
theorem caseT_off : ∀ (a : List UInt8) (q : Bool), (caseT (fun _ => false) q a).1 = a
  | [], q => rfl
  | c :: a, q => by simp [caseT, caseT_off a]
theorem lx_nil : lx [] = some [] := by unfold lx; rw [lexFrom_nil]; rfl
theorem lx_tok {s : List UInt8} {t : Tok} {n : Nat} (hs : s ≠ []) (h : tokF s = ⟨t, n, 0⟩) : lx s = (lx (s.drop n)).map fun r => if t.kind = 0 then r else t :: r := by
  unfold lx
  have e := lexFrom_go (i := 0) hs (by rw [h])
  rw [h] at e
  dsimp only at e
  have e2 := lexFrom_at (s.drop n).length (s.drop n) (0 + n) (Nat.le_refl _)
  rw [e2] at e
  dsimp only at e
  by_cases h0 : (lexFrom 0 (s.drop n)).1 = 0
  · rw [if_pos h0] at e
    rw [e, if_pos rfl, if_pos h0]
    simp only [Option.map_some]
    by_cases hk : t.kind = 0
    · simp [hk, List.map_map, Function.comp_def]
    · simp [hk, List.map_map, Function.comp_def]
  · rw [if_neg h0] at e
    rw [e, if_neg h0, if_neg h0]
    rfl
/-- And whatever follows at all. -/
def Fx (s : List UInt8) (ts : List Tok) : Prop := ∀ f, (caseT f false s).2 = false ∧ ∀ c, lx ((caseT f false s).1 ++ c) = (lx c).map (ts ++ ·)
theorem map_app_app (x : Option (List Tok)) (a b : List Tok) : (x.map (b ++ ·)).map (a ++ ·) = x.map ((a ++ b) ++ ·) := by cases x <;> simp
section
variable {s s' : List UInt8} {ts ts' : List Tok}
theorem Fx.lx_ (h : Fx s ts) : Lx s ts := fun f => ⟨(h f).1, fun c _ => (h f).2 c⟩
theorem Fx.app (h : Fx s ts) (h' : Fx s' ts') : Fx (s ++ s') (ts ++ ts') := fun f => by
  obtain ⟨a1, a2⟩ := h f
  obtain ⟨b1, b2⟩ := h' fun i => f (i + s.length)
  rw [caseT_app, a1]
  exact ⟨b1, fun c => by rw [List.append_assoc, a2, b2, map_app_app]⟩
theorem Fx.lapp (h : Fx s ts) (h' : Lx s' ts') : Lx (s ++ s') (ts ++ ts') := fun f => by
  obtain ⟨a1, a2⟩ := h f
  obtain ⟨b1, b2⟩ := h' fun i => f (i + s.length)
  rw [caseT_app, a1]
  exact ⟨b1, fun c hc => by rw [List.append_assoc, a2, b2 c hc, map_app_app]⟩
theorem Lx.app (h : Lx s ts) (h' : Lx s' ts') (hb : Brk s') : Lx (s ++ s') (ts ++ ts') := fun f => by
  obtain ⟨a1, a2⟩ := h f
  obtain ⟨b1, b2⟩ := h' fun i => f (i + s.length)
  rw [caseT_app, a1]
  exact ⟨b1, fun c hc => by rw [List.append_assoc, a2 _ (hb.case _ c hc), b2 c hc, map_app_app]⟩
theorem Lx.fapp (h : Lx s ts) (h' : Fx s' ts') (hb : Brk s') (hne : s' ≠ []) : Fx (s ++ s') (ts ++ ts') := fun f => by
  obtain ⟨a1, a2⟩ := h f
  obtain ⟨b1, b2⟩ := h' fun i => f (i + s.length)
  rw [caseT_app, a1]
  refine ⟨b1, fun c => ?_⟩
  have hbk : Brk ((caseT (fun i => f (i + s.length)) false s').1 ++ c) := by
    rcases hb with h | ⟨x, t, rfl, hx⟩
    · exact absurd h hne
    · obtain ⟨t', e⟩ := caseT_head hx (fun i => f (i + s.length)) t
      exact .inr ⟨x, t' ++ c, by rw [e]; rfl, hx⟩
  rw [List.append_assoc, a2 _ hbk, b2, map_app_app]
end
/-- A sign of one byte that is no beginning of two. -/
theorem sign_fx (x : UInt8) (h : isSign x = true ∧ isBlank x = false ∧ isLet x = false ∧ isDig x = false ∧ x ≠ 39 ∧ x ≠ 60 ∧ x ≠ 62) : Fx [x] [tS [x]] := by
  obtain ⟨h1, h2, h3, h4, h5, h6, h7⟩ := h
  intro f
  have hl : ¬ (65 ≤ x ∧ x ≤ 90) := by
    rintro ⟨a, b⟩
    have : isLet x = true := by unfold isLet; simp [a, b]
    rw [h3] at this; cases this
  have h32 : x ≠ 32 := by rintro rfl; exact absurd h2 (by decide)
  have e : caseT f false [x] = ([x], false) := by
    simp only [caseT, if_neg h5]
    rw [if_neg (fun h => hl h.2), if_neg (fun h => h32 h.2)]
    rfl
  rw [e]
  refine ⟨rfl, fun c => ?_⟩
  have ht : tokF ([x] ++ c) = ⟨tS [x], 1, 0⟩ := by
    rw [List.cons_append, List.nil_append]
    simp only [tokF, h2, h3, h4, if_neg h5, Bool.false_eq_true, if_false]
    cases c with
    | nil => simp [signF, h1, tS]
    | cons y c =>
      have : isTwo x y = false := by simp [isTwo, h6, h7]
      simp [signF, h1, this, tS]
  rw [lx_tok (by simp) ht]
  simp [tS]
theorem fx40 : Fx [40] [tS [40]] := sign_fx 40 (by decide)
theorem fx41 : Fx [41] [tS [41]] := sign_fx 41 (by decide)
theorem fx42 : Fx [42] [tS [42]] := sign_fx 42 (by decide)
theorem fx43 : Fx [43] [tS [43]] := sign_fx 43 (by decide)
theorem fx44 : Fx [44] [tS [44]] := sign_fx 44 (by decide)
theorem fx45 : Fx [45] [tS [45]] := sign_fx 45 (by decide)
theorem fx47 : Fx [47] [tS [47]] := sign_fx 47 (by decide)
theorem fx37 : Fx [37] [tS [37]] := sign_fx 37 (by decide)
theorem fx59 : Fx [59] [tS [59]] := sign_fx 59 (by decide)
theorem fx61 : Fx [61] [tS [61]] := sign_fx 61 (by decide)
theorem lx_blank {x : UInt8} (h : isBlank x = true) (c : List UInt8) : lx (x :: c) = lx c := by
  rw [lx_tok (by simp) (tokF_blank h c)]
  cases h : lx c <;> simp [h]
theorem fx32 : Fx [32] [] := by
  intro f
  refine ⟨by simp [caseT], fun c => ?_⟩
  have e : lx ((caseT f false [32]).1 ++ c) = lx c := by
    simp only [caseT]
    cases h : f 0
    · simp; exact lx_blank (by decide) c
    · simp; rw [lx_blank (by decide), lx_blank (by decide), lx_blank (by decide)]
  rw [e, map_nil_app]
theorem brk_stop {c : List UInt8} (h : Brk c) : c = [] ∨ ∃ x r, c = x :: r ∧ isWordy x = false ∧ isLet x = false ∧ isDig x = false ∧ x ≠ 39 ∧ ∀ y, isTwo y x = false := by
  rcases h with h | ⟨x, r, h, hx⟩
  · exact .inl h
  · refine .inr ⟨x, r, h, ?_⟩
    rcases hx with rfl | rfl | rfl | rfl <;> exact ⟨by decide, by decide, by decide, by decide, fun y => by simp [isTwo]⟩
theorem two_fx (a b : UInt8) (h : isTwo a b = true) : Fx [a, b] [tS [a, b]] := by
  have hab : (a = 60 ∧ b = 62) ∨ (a = 60 ∧ b = 61) ∨ (a = 62 ∧ b = 61) := by simpa [isTwo, or_assoc] using h
  have key : ∀ f, caseT f false [a, b] = ([a, b], false) := fun f => by rcases hab with ⟨rfl, rfl⟩ | ⟨rfl, rfl⟩ | ⟨rfl, rfl⟩ <;> simp [caseT] <;> decide
  intro f
  rw [key f]
  refine ⟨rfl, fun c => ?_⟩
  have ht : tokF ([a, b] ++ c) = ⟨tS [a, b], 2, 0⟩ := by rcases hab with ⟨rfl, rfl⟩ | ⟨rfl, rfl⟩ | ⟨rfl, rfl⟩ <;> rfl
  rw [lx_tok (by simp) ht]
  simp [tS]
theorem one_lx (a : UInt8) (h : a = 60 ∨ a = 62) : Lx [a] [tS [a]] := by
  have key : ∀ f, caseT f false [a] = ([a], false) := fun f => by rcases h with rfl | rfl <;> simp [caseT] <;> decide
  intro f
  rw [key f]
  refine ⟨rfl, fun c hc => ?_⟩
  have ht : tokF ([a] ++ c) = ⟨tS [a], 1, 0⟩ := by
    rcases brk_stop hc with rfl | ⟨x, r, rfl, _, _, _, _, h2⟩
    · rcases h with rfl | rfl <;> rfl
    · have h2 := h2 a
      rcases h with rfl | rfl
      · simp [tokF, show isBlank 60 = false from by decide, show isLet 60 = false from by decide, show isDig 60 = false from by decide, signF, h2, show isSign 60 = true from by decide, tS]
      · simp [tokF, show isBlank 62 = false from by decide, show isLet 62 = false from by decide, show isDig 62 = false from by decide, signF, h2, show isSign 62 = true from by decide, tS]
  rw [lx_tok (by simp) ht]
  simp [tS]
def lowT (on : Bool) (c : UInt8) : UInt8 := if on = true ∧ 65 ≤ c ∧ c ≤ 90 then c + 32 else c
theorem low_all (on : Bool) (c : UInt8) (h : isWordy c = true ∧ upB c = c) : isWordy (lowT on c) = true ∧ upB (lowT on c) = c ∧ (isDig c = false → isLet (lowT on c) = true ∧ isBlank (lowT on c) = false) ∧ c ≠ 39 ∧ c ≠ 32 := by
  have key := u8_all (p := fun c => !(isWordy c && decide (upB c = c)) || ((isWordy (lowT on c) && decide (upB (lowT on c) = c)) && (isDig c || (isLet (lowT on c) && !isBlank (lowT on c))) && decide (c ≠ 39) && decide (c ≠ 32))) (by cases on <;> decide +kernel) c
  simp only [h.1, h.2, decide_true, Bool.true_and, Bool.not_true, Bool.false_or, Bool.and_eq_true, Bool.or_eq_true, decide_eq_true_eq, Bool.not_eq_true'] at key
  obtain ⟨⟨⟨⟨a, b⟩, c1⟩, d⟩, e⟩ := key
  refine ⟨a, b, fun hd => ?_, d, e⟩
  rcases c1 with c1 | c1
  · rw [hd] at c1; cases c1
  · exact c1
theorem wordy_case : ∀ (s : List UInt8) (f : Nat → Bool), (∀ c ∈ s, isWordy c = true ∧ upB c = c) → ∃ s', caseT f false s = (s', false) ∧ s'.length = s.length ∧ s'.all isWordy = true ∧ s'.map upB = s ∧ ∀ c r, s = c :: r → isDig c = false → ∃ c' r', s' = c' :: r' ∧ isLet c' = true ∧ isBlank c' = false
  | [], f, h => ⟨[], rfl, rfl, rfl, rfl, fun c r h => by cases h⟩
  | c :: s, f, h => by
    obtain ⟨s', h1, h2, h3, h4, -⟩ := wordy_case s (fun i => f (i + 1)) fun x hx => h x (by simp [hx])
    obtain ⟨a, b, d, e, g⟩ := low_all (f 0) c (h c (by simp))
    refine ⟨lowT (f 0) c :: s', ?_, by simp [h2], by simp [a, h3], by simp [b, h4], ?_⟩
    · simp only [caseT, if_neg e, h1]
      simp [g, lowT]
    · rintro c' r ⟨⟩ hd
      exact ⟨_, _, rfl, d hd⟩
theorem takeWhile_brk {p : UInt8 → Bool} {a c : List UInt8} (ha : a.all p = true) (hc : c = [] ∨ ∃ x r, c = x :: r ∧ p x = false) : (a ++ c).takeWhile p = a ∧ (a ++ c).dropWhile p = c := by
  rcases hc with rfl | ⟨x, r, rfl, hx⟩
  · rw [List.append_nil]; exact takeWhile_id ha
  · exact ⟨takeWhile_all hx r ha, dropWhile_all hx r ha⟩
theorem word_lx {s : List UInt8} (h : wordOk s = true) : Lx s [tW s] := by
  have hall : (∀ c ∈ s, isWordy c = true ∧ upB c = c) ∧ ∃ c r, s = c :: r ∧ isDig c = false := by
    simp only [wordOk, Bool.and_eq_true, decide_eq_true_eq] at h
    obtain ⟨⟨h1, h2⟩, h3⟩ := h
    rw [List.all_eq_true] at h2
    refine ⟨fun c hc => ⟨h2 c hc, ?_⟩, ?_⟩
    · obtain ⟨i, hi, rfl⟩ := List.getElem_of_mem hc
      have := congrArg (fun l => l[i]?) h3
      simp only [List.getElem?_map, List.getElem?_eq_getElem hi, Option.map_some] at this
      exact Option.some.inj this
    · cases s with
      | nil => simp at h1
      | cons c r => exact ⟨c, r, rfl, by simpa using h1⟩
  intro f
  obtain ⟨s', h1, h2, h3, h4, h5⟩ := wordy_case s f hall.1
  obtain ⟨c0, r0, hs, hd⟩ := hall.2
  obtain ⟨c', r', hs', hlet, hbl⟩ := h5 c0 r0 hs hd
  rw [h1]
  refine ⟨rfl, fun c hc => ?_⟩
  have hc' : c = [] ∨ ∃ x r, c = x :: r ∧ isWordy x = false := by
    rcases brk_stop hc with h | ⟨x, r, h, h1, _⟩
    · exact .inl h
    · exact .inr ⟨x, r, h, h1⟩
  obtain ⟨t1, t2⟩ := takeWhile_brk h3 hc'
  have ht : tokF (s' ++ c) = ⟨tW s, s'.length, 0⟩ := by
    have e : s' ++ c = c' :: (r' ++ c) := by rw [hs']; rfl
    rw [e]
    simp only [tokF, hbl, hlet, Bool.false_eq_true, if_false, if_true]
    rw [← e]
    unfold runF
    rw [t1, h4]
    rfl
  rw [lx_tok (by rw [hs']; simp) ht, List.drop_left]
  rfl
theorem dig_case : ∀ (s : List UInt8) (f : Nat → Bool), s.all isDig = true → caseT f false s = (s, false)
  | [], f, h => rfl
  | c :: s, f, h => by
    simp only [List.all_cons, Bool.and_eq_true] at h
    have hk := u8_all (p := fun c => !isDig c || (decide (c ≠ 39) && decide (c ≠ 32) && !(decide (65 ≤ c) && decide (c ≤ 90)))) (by decide +kernel) c
    simp only [h.1, Bool.not_true, Bool.false_or, Bool.and_eq_true, decide_eq_true_eq, Bool.not_eq_true', Bool.and_eq_false_iff, decide_eq_false_iff_not] at hk
    have hl : ¬ (65 ≤ c ∧ c ≤ 90) := fun ⟨a, b⟩ => by rcases hk.2 with h | h; exact h a; exact h b
    simp only [caseT, if_neg hk.1.1, dig_case s _ h.2]
    rw [if_neg (fun h => hl h.2), if_neg (fun h => hk.1.2 h.2)]
    rfl
theorem num_lx {n : Nat} (h : n ≤ maxI) : Lx (digL n) [⟨2, [], n⟩] := by
  intro f
  rw [dig_case _ f (digL_all n n (Nat.le_refl _))]
  refine ⟨rfl, fun c hc => ?_⟩
  have hd := digL_all n n (Nat.le_refl _)
  have hc' : c = [] ∨ ∃ x r, c = x :: r ∧ isDig x = false := by
    rcases brk_stop hc with h | ⟨x, r, h, _, _, h1, _⟩
    · exact .inl h
    · exact .inr ⟨x, r, h, h1⟩
  obtain ⟨t1, t2⟩ := takeWhile_brk hd hc'
  have hnum : numF (digL n ++ c) = ⟨⟨2, [], n⟩, (digL n).length, 0⟩ := by
    unfold numF
    rw [t1, t2, digL_num n n (Nat.le_refl _) h]
    unfold runF
    rw [t1]
    rcases brk_stop hc with rfl | ⟨x, r, rfl, _, h2, _⟩
    · rfl
    · simp [h2]
  have ht : tokF (digL n ++ c) = ⟨⟨2, [], n⟩, (digL n).length, 0⟩ := by
    cases hl : digL n with
    | nil => exact absurd hl (digL_ne n)
    | cons y l =>
      rw [hl] at hnum hd
      have hy : isDig y = true := by simp at hd; exact hd.1
      obtain ⟨w1, w2⟩ := dig_word hy
      rw [List.cons_append] at hnum ⊢
      simp only [tokF, w1, w2, hy, Bool.false_eq_true, if_false, if_true, hnum]
  rw [lx_tok (by intro h; exact digL_ne n (List.append_eq_nil_iff.1 h).1) ht, List.drop_left]
  rfl
theorem dbl_case : ∀ (s : List UInt8) (f : Nat → Bool), caseT f true (dbl s) = (dbl s, true)
  | [], f => rfl
  | c :: s, f => by
    have e : dbl (c :: s) = (if c = 39 then [39, 39] else [c]) ++ dbl s := rfl
    rw [e]
    by_cases hc : c = 39
    · rw [if_pos hc]
      simp only [List.cons_append, List.nil_append, caseT, dbl_case s]
      simp [dbl_case s]
    · rw [if_neg hc]
      simp only [List.cons_append, List.nil_append, caseT, if_neg hc, dbl_case s]
      simp
theorem text_case (s : List UInt8) (f : Nat → Bool) : caseT f false (39 :: dbl s ++ [39]) = (39 :: dbl s ++ [39], false) := by
  rw [List.cons_append]
  simp only [caseT]
  rw [caseT_app]
  simp only [if_true, Bool.not_false, dbl_case, caseT, Bool.not_true]
  simp
theorem textGo_end : ∀ (s acc : List UInt8) (i : Nat) (c : List UInt8), c.head? ≠ some 39 → (acc ++ s).length ≤ 64 → textGo acc i (dbl s ++ 39 :: c) = ⟨⟨3, acc ++ s, 0⟩, i + (dbl s).length + 1, 0⟩
  | [], acc, i, c, hc, hl => by
    have e : dbl [] = [] := rfl
    rw [e, List.nil_append, textGo_q _ _ _ hc, if_neg (by simpa using hl)]
    simp
  | x :: s, acc, i, c, hc, hl => by
    have e : dbl (x :: s) = (if x = 39 then [39, 39] else [x]) ++ dbl s := rfl
    have hl2 : ((acc ++ [x]) ++ s).length ≤ 64 := by simpa using hl
    rw [e]
    by_cases hx : x = 39
    · subst hx
      rw [if_pos rfl]
      simp only [List.cons_append, List.nil_append]
      rw [textGo_qq, textGo_end s _ _ c hc hl2]
      simp; omega
    · rw [if_neg hx]
      simp only [List.cons_append, List.nil_append]
      rw [textGo_c _ _ _ _ hx, textGo_end s _ _ c hc hl2]
      simp; omega
theorem text_lx {s : List UInt8} (h : s.length ≤ 64) : Lx (39 :: dbl s ++ [39]) [⟨3, s, 0⟩] := by
  intro f
  rw [text_case]
  refine ⟨rfl, fun c hc => ?_⟩
  have hq : c.head? ≠ some 39 := by
    rcases brk_stop hc with rfl | ⟨x, r, rfl, _, _, _, h1, _⟩
    · simp
    · simpa using h1
  have ht : tokF ((39 :: dbl s ++ [39]) ++ c) = ⟨⟨3, s, 0⟩, (39 :: dbl s ++ [39]).length, 0⟩ := by
    have e : (39 :: dbl s ++ [39]) ++ c = 39 :: (dbl s ++ 39 :: c) := by simp
    rw [e]
    simp only [tokF, show isBlank 39 = false from by decide, show isLet 39 = false from by decide, show isDig 39 = false from by decide, Bool.false_eq_true, if_false, if_true]
    rw [textGo_end s [] 1 c hq (by simpa using h)]
    simp; omega
  rw [lx_tok (by simp) ht, List.drop_left]
  rfl
theorem i64_nat {n : Int} (h : i64B n = true) : n.toNat ≤ maxI := by
  simp only [i64B, Bool.and_eq_true, decide_eq_true_eq] at h
  unfold maxI; omega
section
variable {s s' : List UInt8} {ts ts' : List Tok}
theorem brk32 (r : List UInt8) : Brk (32 :: r) := .inr ⟨32, r, rfl, .inl rfl⟩
theorem brk41 (r : List UInt8) : Brk (41 :: r) := .inr ⟨41, r, rfl, .inr (.inl rfl)⟩
theorem brk44 (r : List UInt8) : Brk (44 :: r) := .inr ⟨44, r, rfl, .inr (.inr (.inl rfl))⟩
theorem brk59 (r : List UInt8) : Brk (59 :: r) := .inr ⟨59, r, rfl, .inr (.inr (.inr rfl))⟩
theorem Lx.cast (h : Lx s ts) (e : s = s') (e' : ts = ts') : Lx s' ts' := by subst e e'; exact h
theorem Fx.cast (h : Fx s ts) (e : s = s') (e' : ts = ts') : Fx s' ts' := by subst e e'; exact h
theorem Lx.sp (h : Lx s ts) : Fx (s ++ [32]) ts := (h.fapp fx32 (brk32 _) (by simp)).cast rfl (by simp)
theorem Lx.par (h : Lx s ts) : Fx (s ++ [41]) (ts ++ [tS [41]]) := h.fapp fx41 (brk41 _) (by simp)
end
theorem word_ok {s : List UInt8} (h : wordF s = true) : wordOk s = true := by
  simp only [wordF, Bool.and_eq_true] at h
  exact h.1.2
theorem wlx {s : List UInt8} (h : wordOk s = true) : Fx (s ++ [32]) [tW s] := (word_lx h).sp
theorem showV_lx {v : Val} (h : mayV v = true) (h0 : 0 ≤ v.n) (hm : i64B v.n = true) : Lx (showL v) [tokV v] := by
  have hM := (mayV_iff v).1 h
  unfold showL tokV
  rw [if_pos hM]
  rcases hM with ⟨hk, -, -⟩ | ⟨hk, -, -⟩ | ⟨hk, -⟩ | ⟨hk, -, hl⟩
  · rw [if_neg (by omega), if_neg (by omega), if_neg (by omega), if_neg (by omega), if_neg (by omega), if_neg (by omega)]
    exact word_lx (by decide)
  · rw [if_pos hk, if_pos hk]
    by_cases h1 : v.n = 1
    · rw [if_pos h1]; exact word_lx (by decide)
    · rw [if_neg h1]; exact word_lx (by decide)
  · rw [if_neg (by omega), if_pos hk, if_neg (by omega), if_pos hk]
    unfold intL
    rw [if_neg (by omega)]
    exact num_lx (i64_nat hm)
  · rw [if_neg (by omega), if_neg (by omega), if_pos hk, if_neg (by omega), if_neg (by omega), if_pos hk]
    exact text_lx hl
theorem op_lx {s : List UInt8} (h : argsN s = 2) : Lx s [opTok s] := by
  rcases args_two h with rfl | rfl | rfl | rfl | rfl | rfl | rfl | rfl | rfl | rfl | rfl | rfl | rfl
  · exact (word_lx (s := wOR) (by decide)).cast rfl (by decide)
  · exact (word_lx (s := wAND) (by decide)).cast rfl (by decide)
  · exact fx61.lx_.cast rfl (by decide)
  · exact (two_fx 60 62 (by decide)).lx_.cast rfl (by decide)
  · exact (one_lx 60 (by decide)).cast rfl (by decide)
  · exact (two_fx 60 61 (by decide)).lx_.cast rfl (by decide)
  · exact (one_lx 62 (by decide)).cast rfl (by decide)
  · exact (two_fx 62 61 (by decide)).lx_.cast rfl (by decide)
  · exact fx43.lx_.cast rfl (by decide)
  · exact fx45.lx_.cast rfl (by decide)
  · exact fx42.lx_.cast rfl (by decide)
  · exact fx47.lx_.cast rfl (by decide)
  · exact fx37.lx_.cast rfl (by decide)
theorem two_lx {s a b : List UInt8} {v : Val} {ta tb : List Tok} (h : argsN s = 2) (ha : Lx a ta) (hb : Lx b tb) : Fx (showOp 3 s v [a, b]) (toksOp 3 s v [ta, tb]) := by
  rw [showOp_two h, toksOp_two h]
  exact (fx40.app (ha.sp.app ((op_lx h).sp.app hb.par))).cast (by simp) (by simp)
/-- The tokens of an expression. -/
theorem showE_lx : ∀ e : Ex, ∀ d, mayE e d = true → ExI e → Lx (showE e) (toksE e) := by
  apply Ex.ind
  intro k s v l ih d h hI
  rw [mayE] at h
  by_cases h0 : d = 0
  · rw [if_pos h0] at h; cases h
  rw [if_neg h0] at h
  by_cases h1 : k = 1
  · subst h1
    simp only [if_true, Bool.and_eq_true, decide_eq_true_eq] at h
    obtain ⟨⟨⟨rfl, h2⟩, h3⟩, h4⟩ := h
    exact showV_lx h3 h4 hI.val
  rw [if_neg h1] at h
  by_cases h2 : k = 2
  · subst h2
    simp only [if_true, Bool.and_eq_true, decide_eq_true_eq] at h
    obtain ⟨⟨rfl, h2⟩, h3⟩ := h
    exact word_lx (word_ok h3)
  rw [if_neg h2] at h
  simp only [Bool.and_eq_true, decide_eq_true_eq] at h
  obtain ⟨⟨⟨rfl, rfl⟩, h3⟩, h4⟩ := h
  have hm := mayEs_mem h4
  rcases args_range s with hs | hs | hs
  · obtain ⟨a, rfl⟩ : ∃ a, l = [a] := by
      match l, h3 with
      | [a], _ => exact ⟨a, rfl⟩
      | [], h3 => simp at h3; omega
      | a :: b :: r, h3 => simp at h3; omega
    have ha := ih a (by simp) _ (hm a (by simp)) (hI.arg a (by simp [Ex.args]))
    rcases args_one hs with rfl | rfl | rfl | rfl
    · have e1 : showE (.mk 3 wNOT .zero [a]) = [40, 78, 79, 84, 32] ++ showE a ++ [41] := rfl
      have e2 : toksE (.mk 3 wNOT .zero [a]) = tS [40] :: (tW wNOT :: toksE a) ++ [tS [41]] := rfl
      rw [e1, e2]
      exact (fx40.app ((wlx (s := wNOT) (by decide)).app ha.par)).lx_.cast (by simp [wNOT]) (by simp)
    · have e1 : showE (.mk 3 wISNULL .zero [a]) = 40 :: showE a ++ [32, 73, 83, 32, 78, 85, 76, 76, 41] := rfl
      have e2 : toksE (.mk 3 wISNULL .zero [a]) = tS [40] :: (toksE a ++ [tW wIS, tW wNULL]) ++ [tS [41]] := rfl
      rw [e1, e2]
      exact (fx40.app (ha.sp.app ((wlx (s := wIS) (by decide)).app (word_lx (s := wNULL) (by decide)).par))).lx_.cast (by simp [wIS, wNULL]) (by simp)
    · have e1 : showE (.mk 3 wNOTNULL .zero [a]) = 40 :: showE a ++ [32, 73, 83, 32, 78, 79, 84, 32, 78, 85, 76, 76, 41] := rfl
      have e2 : toksE (.mk 3 wNOTNULL .zero [a]) = tS [40] :: (toksE a ++ [tW wIS, tW wNOT, tW wNULL]) ++ [tS [41]] := rfl
      rw [e1, e2]
      exact (fx40.app (ha.sp.app ((wlx (s := wIS) (by decide)).app ((wlx (s := wNOT) (by decide)).app (word_lx (s := wNULL) (by decide)).par)))).lx_.cast (by simp [wIS, wNOT, wNULL]) (by simp)
    · have e1 : showE (.mk 3 wNEG .zero [a]) = [40, 45, 32] ++ showE a ++ [41] := rfl
      have e2 : toksE (.mk 3 wNEG .zero [a]) = tS [40] :: (tS [45] :: toksE a) ++ [tS [41]] := rfl
      rw [e1, e2]
      exact (fx40.app (fx45.app (fx32.app ha.par))).lx_.cast (by simp) (by simp)
  · obtain ⟨a, b, rfl⟩ : ∃ a b, l = [a, b] := by
      match l, h3 with
      | [a, b], _ => exact ⟨a, b, rfl⟩
      | [], h3 => simp at h3; omega
      | [a], h3 => simp at h3; omega
      | a :: b :: c :: r, h3 => simp at h3; omega
    have ha := ih a (by simp) _ (hm a (by simp)) (hI.arg a (by simp [Ex.args]))
    have hb := ih b (by simp) _ (hm b (by simp)) (hI.arg b (by simp [Ex.args]))
    exact (two_lx hs ha hb).lx_
  · rw [hs] at h3; omega
theorem join_lx {α : Type} {f : α → List UInt8} {g : α → List Tok} {c : UInt8} (hc : c = 44 ∨ c = 59) : ∀ l : List α, (∀ x ∈ l, Lx (f x) (g x)) → Lx (joinT [c, 32] (l.map f)) (joinK (tS [c]) (l.map g))
  | [], _ => Lx.nil
  | [a], h => h a (by simp)
  | a :: b :: l, h => by
    have ha := h a (by simp)
    have ih := join_lx hc (b :: l) fun x hx => h x (by simp at hx ⊢; exact .inr hx)
    have hs : Fx (f a ++ [c, 32]) (g a ++ [tS [c]]) := by
      rcases hc with rfl | rfl
      · exact (ha.fapp (fx44.app fx32) (brk44 _) (by simp)).cast rfl (by simp)
      · exact (ha.fapp (fx59.app fx32) (brk59 _) (by simp)).cast rfl (by simp)
    exact (hs.lapp ih).cast (by simp [joinT]) (by simp [joinK])
theorem intL_lx {n : Int} (h : i64B n = true) (h0 : 0 ≤ n) : Lx (intL n) [tokN n] := by
  unfold intL
  rw [if_neg (by omega)]
  exact num_lx (i64_nat h)
theorem showI_lx {m : Nat} {x : Itm} (h : mayI m x = true) (hI : ExI x.e) : Lx (showI x) (toksI x) := by
  unfold mayI at h
  unfold showI toksI
  by_cases h1 : x.kind = 1
  · rw [if_pos h1, if_pos h1]; exact fx42.lx_
  rw [if_neg h1] at h ⊢
  rw [if_neg h1]
  by_cases h3 : x.kind = 3
  · rw [if_pos h3, if_pos h3]
    exact ((wlx (s := wCOUNT) (by decide)).app (fx40.app (fx42.app fx41))).lx_.cast (by simp [wCOUNT]) (by simp)
  rw [if_neg h3] at h ⊢
  rw [if_neg h3]
  by_cases h24 : x.kind = 2 ∨ x.kind = 4
  · rw [if_pos h24] at h
    have he := showE_lx x.e 16 h hI
    by_cases h4 : x.kind = 4
    · rw [if_pos h4, if_pos h4]
      exact ((wlx (s := wSUM) (by decide)).app (fx40.app he.par)).lx_.cast (by simp [wSUM]) (by simp)
    · rw [if_neg h4, if_neg h4]; exact he
  · rw [if_neg h24] at h; cases h
theorem showR_lx {r : List Ex} (h : mayRow r = true) (hI : ∀ e ∈ r, ExI e) : Lx (showR r) (toksR r) := by
  simp only [mayRow, Bool.and_eq_true, List.all_eq_true] at h
  exact (fx40.app (join_lx (f := showE) (g := toksE) (.inl rfl) r fun x hx => showE_lx x 16 (h.2 x hx) (hI x hx)).par).lx_.cast (by simp [showR]) (by simp [toksR])
theorem showA_lx {x : Asn} (hn : wordF x.name = true) (h : mayE x.e 16 = true) (hI : ExI x.e) : Lx (showA x) (toksA x) :=
  ((wlx (word_ok hn)).app (fx61.app fx32)).lapp (showE_lx x.e 16 h hI) |>.cast (by simp [showA]) (by simp [toksA])
theorem headS_lx {s : Stm} (h : mayS s = true) (hI : StI s) : Lx (headS s) (headK s) := by
  simp only [mayS, Bool.and_eq_true] at h
  obtain ⟨⟨⟨⟨⟨ht, -⟩, -⟩, -⟩, -⟩, hk⟩ := h
  have hT := word_lx (word_ok ht)
  unfold headS headK
  by_cases h1 : s.kind = 1
  · rw [if_pos h1] at hk ⊢
    rw [if_pos h1]
    simp only [Bool.and_eq_true] at hk
    obtain ⟨⟨hi, -⟩, -⟩ := hk
    simp only [mayIs, Bool.and_eq_true, List.all_eq_true] at hi
    have hj := join_lx (c := 44) (f := showI) (g := toksI) (.inl rfl) s.items fun x hx => showI_lx (hi.1.1 x hx) (hI.items x hx)
    exact ((wlx (s := wSELECT) (by decide)).app (hj.sp.app (wlx (s := wFROM) (by decide)))).lapp hT |>.cast (by simp [wSELECT, wFROM]) (by simp)
  rw [if_neg h1] at hk ⊢
  rw [if_neg h1]
  by_cases h2 : s.kind = 2
  · rw [if_pos h2] at hk ⊢
    rw [if_pos h2]
    simp only [Bool.and_eq_true] at hk
    have hr := hk.1
    simp only [mayRows, Bool.and_eq_true, List.all_eq_true] at hr
    have hj := join_lx (c := 44) (f := showR) (g := toksR) (.inl rfl) s.rows fun x hx => showR_lx (hr.1.1 x hx) (hI.rows x hx)
    exact ((wlx (s := wINSERT) (by decide)).app ((wlx (s := wINTO) (by decide)).app (hT.sp.app (wlx (s := wVALUES) (by decide))))).lapp hj |>.cast (by simp [wINSERT, wINTO, wVALUES]) (by simp)
  rw [if_neg h2] at hk ⊢
  rw [if_neg h2]
  by_cases h3 : s.kind = 3
  · rw [if_pos h3] at hk ⊢
    rw [if_pos h3]
    simp only [maySets, Bool.and_eq_true, List.all_eq_true] at hk
    have hj := join_lx (c := 44) (f := showA) (g := toksA) (.inl rfl) s.sets fun x hx => showA_lx (hk.2 x hx).1 (hk.2 x hx).2 (hI.sets x hx)
    exact ((wlx (s := wUPDATE) (by decide)).app (hT.sp.app (wlx (s := wSET) (by decide)))).lapp hj |>.cast (by simp [wUPDATE, wSET]) (by simp)
  · rw [if_neg h3, if_neg h3]
    exact ((wlx (s := wDELETE) (by decide)).app (wlx (s := wFROM) (by decide))).lapp hT |>.cast (by simp [wDELETE, wFROM]) (by simp)
theorem brk_if {p : Prop} [Decidable p] (r : List UInt8) : Brk (if p then 32 :: r else []) := by
  split
  · exact brk32 _
  · exact .inl rfl
theorem brk_app {a b : List UInt8} (ha : Brk a) (hb : Brk b) : Brk (a ++ b) := by
  rcases ha with rfl | ⟨x, r, rfl, hx⟩
  · exact hb
  · exact .inr ⟨x, r ++ b, rfl, hx⟩
theorem spw {s : List UInt8} (h : wordOk s = true) : Fx (32 :: s ++ [32]) [tW s] := (fx32.app (wlx h)).cast (by simp) (by simp)
theorem tailS_lx {s : Stm} (h : mayS s = true) (hI : StI s) : Lx (tailS s) (whereK s ++ (orderK s ++ limitK s)) ∧ Brk (tailS s) := by
  simp only [mayS, Bool.and_eq_true] at h
  obtain ⟨⟨⟨⟨⟨-, hw⟩, ho⟩, -⟩, -⟩, hk⟩ := h
  have hord : s.order = [] ∨ wordF s.order = true := by
    by_cases h1 : s.kind = 1
    · rw [if_pos h1] at hk
      simp only [Bool.and_eq_true, Bool.or_eq_true, decide_eq_true_eq] at hk
      rcases hk.1.2 with h | h
      · exact .inl h.1
      · exact .inr h
    · simp only [Bool.or_eq_true, Bool.and_eq_true, decide_eq_true_eq] at ho
      rcases ho with h | h
      · exact absurd h h1
      · exact .inl h.1.1.2
  have a1 : Lx (if s.filt then [32, 87, 72, 69, 82, 69, 32] ++ showE s.cond else []) (whereK s) := by
    unfold whereK
    cases hf : s.filt
    · exact Lx.nil
    · rw [hf] at hw
      exact ((spw (s := wWHERE) (by decide)).lapp (showE_lx s.cond 16 hw hI.cond)).cast (by simp [wWHERE]) (by simp)
  have a2 : Lx (if s.order = [] then [] else [32, 79, 82, 68, 69, 82, 32, 66, 89, 32] ++ s.order) (if s.order = [] then [] else [tW wORDER, tW wBY, tW s.order]) := by
    rcases hord with h | h
    · rw [if_pos h, if_pos h]; exact Lx.nil
    · by_cases h0 : s.order = []
      · rw [if_pos h0, if_pos h0]; exact Lx.nil
      · rw [if_neg h0, if_neg h0]
        exact (((spw (s := wORDER) (by decide)).app (wlx (s := wBY) (by decide))).lapp (word_lx (word_ok h))).cast (by simp [wORDER, wBY]) (by simp)
  have a3 : Lx (if s.down then [32, 68, 69, 83, 67] else []) (if s.down then [tW wDESC] else []) := by
    cases s.down
    · exact Lx.nil
    · exact (fx32.lapp (word_lx (s := wDESC) (by decide))).cast (by simp [wDESC]) (by simp)
  have a4 : Lx (if s.kind = 1 ∧ 0 ≤ s.limit then [32, 76, 73, 77, 73, 84, 32] ++ intL s.limit else []) (limitK s) := by
    unfold limitK
    by_cases h : s.kind = 1 ∧ 0 ≤ s.limit
    · rw [if_pos h, if_pos h]
      exact ((spw (s := wLIMIT) (by decide)).lapp (intL_lx hI.limit h.2)).cast (by simp [wLIMIT]) (by simp)
    · rw [if_neg h, if_neg h]; exact Lx.nil
  have b1 : Brk (if s.filt then [32, 87, 72, 69, 82, 69, 32] ++ showE s.cond else []) := brk_if _
  have b2 : Brk (if s.order = [] then [] else [32, 79, 82, 68, 69, 82, 32, 66, 89, 32] ++ s.order) := by
    split
    · exact .inl rfl
    · exact brk32 _
  have b3 : Brk (if s.down then [32, 68, 69, 83, 67] else []) := brk_if _
  have b4 : Brk (if s.kind = 1 ∧ 0 ≤ s.limit then [32, 76, 73, 77, 73, 84, 32] ++ intL s.limit else []) := brk_if _
  refine ⟨?_, ?_⟩
  · exact (a1.app (a2.app (a3.app a4 b4) (brk_app b3 b4)) (brk_app b2 (brk_app b3 b4))).cast (by simp [tailS]) (by simp [orderK])
  · unfold tailS
    exact brk_app (brk_app (brk_app b1 b2) b3) b4
theorem showS_lx {s : Stm} (h : mayS s = true) (hI : StI s) : Lx (showS s) (toksS s) := (headS_lx h hI).app (tailS_lx h hI).1 (tailS_lx h hI).2
theorem lotT_lx {l : LotM} (h : mayLot l = true) (hI : LotI l) : Lx (lotT l) (toksLot l) := by
  simp only [mayLot, Bool.and_eq_true, List.all_eq_true, decide_eq_true_eq] at h
  obtain ⟨⟨⟨⟨⟨⟨hm0, hm2⟩, hn⟩, hnow⟩, hs1⟩, hs8⟩, hall⟩ := h
  have hj := join_lx (c := 59) (f := showS) (g := toksS) (.inr rfl) l.stmts fun x hx => showS_lx (hall x hx) (hI.stmts x hx)
  unfold lotT toksLot
  have hb : Brk (modeT l) := by
    unfold modeT
    split
    · exact brk32 _
    · exact brk_if _
  refine hj.app ?_ hb
  unfold modeT modeK
  have hN := intL_lx hI.n hn
  by_cases h1 : l.mode = 1
  · rw [if_pos h1, if_pos h1]
    exact (((spw (s := wAS) (by decide)).app ((wlx (s := wOF) (by decide)).app ((wlx (s := wSYSTEM) (by decide)).app (wlx (s := wTIME) (by decide))))).lapp hN).cast (by simp [wAS, wOF, wSYSTEM, wTIME]) (by simp)
  rw [if_neg h1, if_neg h1]
  by_cases h2 : l.mode = 2
  · rw [if_pos h2, if_pos h2]
    exact (((spw (s := wAS) (by decide)).app ((wlx (s := wOF) (by decide)).app ((wlx (s := wSYSTEM) (by decide)).app ((wlx (s := wTIME) (by decide)).app (wlx (s := wBOUND) (by decide)))))).lapp hN).cast (by simp [wAS, wOF, wSYSTEM, wTIME, wBOUND]) (by simp)
  · rw [if_neg h2, if_neg h2]; exact Lx.nil
theorem lex_of {s : List UInt8} {ts : List Tok} (h : lx s = some ts) (hl : s.length ≤ 2000) : ∃ T, lexF s = (0, T ++ [(s.length, tE)]) ∧ T.map (·.2) = ts := by
  unfold lx at h
  unfold lexF
  rw [if_neg (by omega)]
  by_cases h0 : (lexFrom 0 s).1 = 0
  · rw [if_pos h0] at h ⊢
    injection h with h
    exact ⟨_, rfl, h⟩
  · rw [if_neg h0] at h; cases h
theorem lx_of {s : List UInt8} {ts : List Tok} (h : Lx s ts) (f : Nat → Bool) : lx (caseT f false s).1 = some ts := by
  have := (h f).2 [] (.inl rfl)
  rw [List.append_nil, lx_nil] at this
  simpa using this
theorem lx_self {s : List UInt8} {ts : List Tok} (h : Lx s ts) : lx s = some ts := by
  have := lx_of h fun _ => false
  rwa [caseT_off] at this
/-- A text whose tokens are a lot's is read as that lot. -/
theorem parse_of {l : LotM} (h : mayLot l = true) {s : List UInt8} (hx : lx s = some (toksLot l)) (hl : s.length ≤ 2000) : parseF s = (l, 0, 0) := by
  obtain ⟨T, h1, h2⟩ := lex_of hx hl
  unfold parseF
  rw [h1]
  simp only [if_true, lot_read h T _ h2]
theorem parse_print {l : LotM} (h : mayLot l = true) (hI : LotI l) (hl : (lotT l).length ≤ 2000) : parseF (lotT l) = (l, 0, 0) := parse_of h (lx_self (lotT_lx h hI)) hl
end Go.Proofs.YtdfojghhpdkpfaaGreatDoor
