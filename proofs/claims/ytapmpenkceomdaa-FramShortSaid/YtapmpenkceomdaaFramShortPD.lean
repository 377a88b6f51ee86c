/- A message is read, by the document's reader. -/
import Derived.Test.YtapmpenkceomdaaFramShortPC
set_option linter.unusedSimpArgs false
set_option linter.unusedVariables false
set_option maxRecDepth 20000
namespace Go.Proofs.Ytapmpenkceomdaa
open Go.Ab

variable {n d : Nat} {h : AHeap}

/-- what bytes are, as a message -/
def decM (l : List UInt8) : Msg × Bool :=
  match rdMsg (some l) with
  | (m, s) => if m.kind = 0 then (zeroM, false) else if s = some [] then (m, true) else (zeroM, false)

set_option maxHeartbeats 1000000 in
theorem rdec_spec (hd : 4 ≤ d) (hn : 100 ≤ n) {v : Value} {l : List UInt8} (hv : Bytes 0 h.next h v l) (hl : l.length ≤ 2 ^ 45) :
    ∃ v' h', aCall Try.prog n d 55 [v] h = some (v', h') ∧ Ext no h.next h h' ∧ ∃ cs, v' = .tuple ⟨[.agg ⟨cs⟩, .bool (decM l).2]⟩ ∧ RepM h.next h'.next h' cs (decM l).1 := by
  obtain ⟨d, rfl, hd⟩ := depth hd
  have hn20 : 20 ≤ n := by omega
  unfold decM rdMsg
  rcases e1 : rdNum 8 (some l) with ⟨k, s1⟩
  rcases e2 : rdNum 6 s1 with ⟨a2, s2⟩
  rcases e3 : rdNum 6 s2 with ⟨a3, s3⟩
  rcases e4 : rdNum 1099511627776 s3 with ⟨a4, s4⟩
  simp only [e1, e2, e3, e4]
  refine call_of t55 (Nat.le_of_ble_eq_true rfl) ?_
  simp only [c55, run, Option.map_some, Nat.reduceEqDiff, Nat.reduceAdd, Nat.zero_add, ↓reduceIte, decide_eq_true_eq, decide_true, decide_false, Bool.not_true, Bool.not_false, Bool.true_eq_false, Bool.false_eq_true, List.getElem?_cons_zero, List.getElem?_cons_succ, List.nil_append, List.cons_append, reduceCtorEq, eq_self, decide_eq_false_iff_not, not_true_eq_false, not_false_eq_true, Nat.add_zero, Nat.succ_ne_self, Nat.one_ne_zero, Nat.zero_ne_one]
  obtain ⟨h0, eh0, x0, n0, gR0⟩ := boxed h ⟨[.int .i64 0, .int .i64 0, .int .i64 0, .int .i64 0, .int .i64 0, .int .i64 0, .bool false, .int .i64 0, .int .i64 0, .int .i64 0, .int .i64 0, .slice none 0 0, .int .i64 0, .int .i64 0, .slice none 0 0, .slice none 0 0, .int .i64 0, .int .i64 0, .int .i64 0, .int .i64 0, .int .i64 0, .slice none 0 0, .slice none 0 0, .slice none 0 0], 24, 0, none⟩
  rw [eh0]
  have vc := hv.cell
  have eb0 : fillV [.slice none 0 0, .bool false] [(0, 1, v)] = some [v, .bool false] := by
    simp [fillV, cells_of vc, splice]
  simp only [run, Option.map_some, Nat.reduceEqDiff, Nat.reduceAdd, Nat.zero_add, ↓reduceIte, decide_eq_true_eq, decide_true, decide_false, Bool.not_true, Bool.not_false, Bool.true_eq_false, Bool.false_eq_true, List.getElem?_cons_zero, List.getElem?_cons_succ, List.nil_append, List.cons_append, reduceCtorEq, eq_self, decide_eq_false_iff_not, not_true_eq_false, not_false_eq_true, Nat.add_zero, Nat.succ_ne_self, Nat.one_ne_zero, Nat.zero_ne_one, eb0]
  obtain ⟨h1, eh1, x1, n1, gP1⟩ := boxed h0 ⟨[v, .bool false], 2, 0, none⟩
  have eh1' : h0.alloc ⟨(Value.agg ⟨[v, .bool false]⟩).cells.toList, 2, 0, none⟩ = h1 := eh1
  rw [eh1']
  have xb1 : Ext no h.next h h1 := x0.trans x1 (by omega)
  obtain ⟨p, hp0⟩ : ∃ p, h0.next = p := ⟨_, rfl⟩
  have r1 : RR h1 p (some l) := ⟨v, false, l, by rw [← hp0]; exact gP1, (hv.keep xb1 (Nat.le_refl _)).more (Nat.le_refl _) (by omega), hl, vc, rfl⟩
  have gR1 := blk0 x1 gR0 (by omega)
  rw [hp0]
  (try simp only [run, Option.map_some, Nat.reduceEqDiff, Nat.reduceAdd, Nat.zero_add, ↓reduceIte, decide_eq_true_eq, decide_true, decide_false, Bool.not_true, Bool.not_false, Bool.true_eq_false, Bool.false_eq_true, List.getElem?_cons_zero, List.getElem?_cons_succ, List.nil_append, List.cons_append, reduceCtorEq, eq_self, decide_eq_false_iff_not, not_true_eq_false, not_false_eq_true, Nat.add_zero, Nat.succ_ne_self, Nat.one_ne_zero, Nat.zero_ne_one])
  refine use (rrnum' (by omega) hn20 r1 e1) ?_
  rintro _ h2 ⟨rfl, n2, x2, r2⟩
  have gR2 := blk x2 gR1 (by omega) (show ¬ h.next = p by omega)
  (try simp only [run, Option.map_some, Nat.reduceEqDiff, Nat.reduceAdd, Nat.zero_add, ↓reduceIte, decide_eq_true_eq, decide_true, decide_false, Bool.not_true, Bool.not_false, Bool.true_eq_false, Bool.false_eq_true, List.getElem?_cons_zero, List.getElem?_cons_succ, List.nil_append, List.cons_append, reduceCtorEq, eq_self, decide_eq_false_iff_not, not_true_eq_false, not_false_eq_true, Nat.add_zero, Nat.succ_ne_self, Nat.one_ne_zero, Nat.zero_ne_one])
  refine use (rrnum' (by omega) hn20 r2 e2) ?_
  rintro _ h3 ⟨rfl, n3, x3, r3⟩
  have gR3 := blk x3 gR2 (by omega) (show ¬ h.next = p by omega)
  (try simp only [run, Option.map_some, Nat.reduceEqDiff, Nat.reduceAdd, Nat.zero_add, ↓reduceIte, decide_eq_true_eq, decide_true, decide_false, Bool.not_true, Bool.not_false, Bool.true_eq_false, Bool.false_eq_true, List.getElem?_cons_zero, List.getElem?_cons_succ, List.nil_append, List.cons_append, reduceCtorEq, eq_self, decide_eq_false_iff_not, not_true_eq_false, not_false_eq_true, Nat.add_zero, Nat.succ_ne_self, Nat.one_ne_zero, Nat.zero_ne_one])
  refine use (rrnum' (by omega) hn20 r3 e3) ?_
  rintro _ h4 ⟨rfl, n4, x4, r4⟩
  have gR4 := blk x4 gR3 (by omega) (show ¬ h.next = p by omega)
  (try simp only [run, Option.map_some, Nat.reduceEqDiff, Nat.reduceAdd, Nat.zero_add, ↓reduceIte, decide_eq_true_eq, decide_true, decide_false, Bool.not_true, Bool.not_false, Bool.true_eq_false, Bool.false_eq_true, List.getElem?_cons_zero, List.getElem?_cons_succ, List.nil_append, List.cons_append, reduceCtorEq, eq_self, decide_eq_false_iff_not, not_true_eq_false, not_false_eq_true, Nat.add_zero, Nat.succ_ne_self, Nat.one_ne_zero, Nat.zero_ne_one])
  refine use (rrnum' (by omega) hn20 r4 e4) ?_
  rintro _ h5 ⟨rfl, n5, x5, r5⟩
  have gR5 := blk x5 gR4 (by omega) (show ¬ h.next = p by omega)
  (try simp only [run, Option.map_some, Nat.reduceEqDiff, Nat.reduceAdd, Nat.zero_add, ↓reduceIte, decide_eq_true_eq, decide_true, decide_false, Bool.not_true, Bool.not_false, Bool.true_eq_false, Bool.false_eq_true, List.getElem?_cons_zero, List.getElem?_cons_succ, List.nil_append, List.cons_append, reduceCtorEq, eq_self, decide_eq_false_iff_not, not_true_eq_false, not_false_eq_true, Nat.add_zero, Nat.succ_ne_self, Nat.one_ne_zero, Nat.zero_ne_one])
  refine use1 (v := [.int .i64 k, .int .i64 a2, .int .i64 a3, .int .i64 a4, .int .i64 0, .int .i64 0, .bool false, .int .i64 0, .int .i64 0, .int .i64 0, .int .i64 0, .slice none 0 0, .int .i64 0, .int .i64 0, .slice none 0 0, .slice none 0 0, .int .i64 0, .int .i64 0, .int .i64 0, .int .i64 0, .int .i64 0, .slice none 0 0, .slice none 0 0, .slice none 0 0]) rfl ?_
  (try simp only [run, Option.map_some, Nat.reduceEqDiff, Nat.reduceAdd, Nat.zero_add, ↓reduceIte, decide_eq_true_eq, decide_true, decide_false, Bool.not_true, Bool.not_false, Bool.true_eq_false, Bool.false_eq_true, List.getElem?_cons_zero, List.getElem?_cons_succ, List.nil_append, List.cons_append, reduceCtorEq, eq_self, decide_eq_false_iff_not, not_true_eq_false, not_false_eq_true, Nat.add_zero, Nat.succ_ne_self, Nat.one_ne_zero, Nat.zero_ne_one])
  obtain ⟨h6, eh6, x6, n6, gB6⟩ := boxed h5 ⟨[.int .i64 0, .int .i64 0, .int .i64 0, .int .i64 0, .int .i64 0, .int .i64 0, .bool false, .int .i64 0, .int .i64 0, .int .i64 0, .int .i64 0, .slice none 0 0, .int .i64 0, .int .i64 0, .slice none 0 0, .slice none 0 0, .int .i64 0, .int .i64 0, .int .i64 0, .int .i64 0, .int .i64 0, .slice none 0 0, .slice none 0 0, .slice none 0 0], 24, 0, none⟩
  rw [eh6]
  have r6 := r5.ext x6 (by omega) (fun _ _ x => x)
  have gR6 := blk0 x6 gR5 (by omega)
  obtain ⟨h7, eh7, n7, x7, gB7⟩ := stoW (k := 24) (vs := [.int .i64 k, .int .i64 a2, .int .i64 a3, .int .i64 a4, .int .i64 0, .int .i64 0, .bool false, .int .i64 0, .int .i64 0, .int .i64 0, .int .i64 0, .slice none 0 0, .int .i64 0, .int .i64 0, .slice none 0 0, .slice none 0 0, .int .i64 0, .int .i64 0, .int .i64 0, .int .i64 0, .int .i64 0, .slice none 0 0, .slice none 0 0, .slice none 0 0]) gB6 rfl rfl rfl (by simp)
  have r7 := r6.ext x7 (by omega) (fun m hm (e : m = h5.next) => by omega)
  have gR7 := blk x7 gR6 (by omega) (show ¬ h.next = h5.next by omega)
  have xb5 : Ext no h.next h h5 := xb1.then (x2.trans (x3.trans (x4.trans x5 (by omega)) (by omega)) (by omega)) (by omega) (fun m hm (e : m = p) => by omega)
  have xb7 : Ext no h.next h h7 := (xb5.trans x6 (by omega)).then x7 (by omega) (fun m hm (e : m = h5.next) => by omega)
  have L7 := fun i => ld_cell (o := i) gB7 (by decide)
  simp only [run, Option.map_some, Nat.reduceEqDiff, Nat.reduceAdd, Nat.zero_add, ↓reduceIte, decide_eq_true_eq, decide_true, decide_false, Bool.not_true, Bool.not_false, Bool.true_eq_false, Bool.false_eq_true, List.getElem?_cons_zero, List.getElem?_cons_succ, List.nil_append, List.cons_append, reduceCtorEq, eq_self, decide_eq_false_iff_not, not_true_eq_false, not_false_eq_true, Nat.add_zero, Nat.succ_ne_self, Nat.one_ne_zero, Nat.zero_ne_one, eh7, L7]
  -- the end of every way: what was read is handed out
  have fin : ∀ (g : AHeap) (cs : List Value) (m : Msg), g.get h.next = ⟨[.int .i64 0, .int .i64 0, .int .i64 0, .int .i64 0, .int .i64 0, .int .i64 0, .bool false, .int .i64 0, .int .i64 0, .int .i64 0, .int .i64 0, .slice none 0 0, .int .i64 0, .int .i64 0, .slice none 0 0, .slice none 0 0, .int .i64 0, .int .i64 0, .int .i64 0, .int .i64 0, .int .i64 0, .slice none 0 0, .slice none 0 0, .slice none 0 0], 24, 0, none⟩ → RepM h0.next g.next g cs m → Ext no h.next h g →
      ∃ g', stV 24 (.pointer (some ⟨h.next, 0, none⟩)) (.agg ⟨cs⟩) g = some g' ∧ g'.loadN h.next 0 24 = some cs ∧ Ext no h.next h g' ∧ RepM h.next g'.next g' cs m := by
    intro g cs m gR rm xg
    obtain ⟨g', f1, f2, f3, f4⟩ := stoW (k := 24) gR rm.length rfl rm.cells rm.ne
    exact ⟨g', f1, ld_whole (k := 24) f4 (by decide) rm.length,
      xg.then f3 xg.next (fun m hm (e : m = h.next) => by omega), (rm.ext f3 (Nat.le_refl _) (fun m h1 h2 (e : m = h.next) => by omega)).more (by omega) (by omega)⟩
  have rep7 : RepM h0.next h7.next h7 [.int .i64 k, .int .i64 a2, .int .i64 a3, .int .i64 a4, .int .i64 0, .int .i64 0, .bool false, .int .i64 0, .int .i64 0, .int .i64 0, .int .i64 0, .slice none 0 0, .int .i64 0, .int .i64 0, .slice none 0 0, .slice none 0 0, .int .i64 0, .int .i64 0, .int .i64 0, .int .i64 0, .int .i64 0, .slice none 0 0, .slice none 0 0, .slice none 0 0] { zeroM with kind := k, src := a2, dst := a3, view := a4 } :=
    ⟨_, _, _, _, _, _, rfl, Sl.nil, Sl.nil, Sl.nil, Sl.nil, Sl.nil, Sl.nil⟩
  by_cases k2 : k = 2
  · have kz : ¬ (k : Int) = 0 := by omega
    have T0 : ((k : Int) = 0) = False := eq_false (by omega)
    have T2 : ((k : Int) = 2) = True := eq_true (by omega)
    have T3 : ((k : Int) = 3) = False := eq_false (by omega)
    have T4 : ((k : Int) = 4) = False := eq_false (by omega)
    have T5 : ((k : Int) = 5) = False := eq_false (by omega)
    have T7 : ((k : Int) = 7) = False := eq_false (by omega)
    have T8 : ((k : Int) = 8) = False := eq_false (by omega)
    rcases q1 : rdNum 1099511627776 s4 with ⟨b1, u1⟩
    rcases q2 : rdNum 1099511627776 u1 with ⟨b2, u2⟩
    rcases q3 : rdNum 1 u2 with ⟨b3, u3⟩
    have eb : rdBody { zeroM with kind := k, src := a2, dst := a3, view := a4 } s4 = ({ ({ zeroM with kind := k, src := a2, dst := a3, view := a4 } : Msg) with inst := b1, len := b2, has := decide ((b3 : Int) = 1) }, u3) := by
      unfold rdBody; simp only [T0, T2, T3, T4, T5, T7, T8, if_false, if_true, q1, q2, q3]
    rw [eb]
    simp only [run, Option.map_some, Nat.reduceEqDiff, Nat.reduceAdd, Nat.zero_add, ↓reduceIte, decide_eq_true_eq, decide_true, decide_false, Bool.not_true, Bool.not_false, Bool.true_eq_false, Bool.false_eq_true, List.getElem?_cons_zero, List.getElem?_cons_succ, List.nil_append, List.cons_append, reduceCtorEq, eq_self, decide_eq_false_iff_not, not_true_eq_false, not_false_eq_true, Nat.add_zero, Nat.succ_ne_self, Nat.one_ne_zero, Nat.zero_ne_one, rund, List.contains_cons, List.contains_nil, Nat.reduceBEq, Bool.and_true, Bool.true_and, Bool.and_false, Bool.false_and, Bool.or_false, Bool.or_true, Bool.false_or, Bool.true_or, true_or, or_true, true_and, and_true, beq_self_eq_true, L7, T0, T2, T3, T4, T5, T7, T8]
    refine use (rrnum' (by omega) hn20 r7 q1) ?_
    rintro _ h8 ⟨rfl, n8, x8, r8⟩
    have gB8 := blk x8 gB7 (by omega) (show ¬ h5.next = p by omega)
    have gR8 := blk x8 gR7 (by omega) (show ¬ h.next = p by omega)
    have xb8 := xb7.then x8 (by omega) (fun m hm (e : m = p) => by omega)
    simp only [run, Option.map_some, Nat.reduceEqDiff, Nat.reduceAdd, Nat.zero_add, ↓reduceIte, decide_eq_true_eq, decide_true, decide_false, Bool.not_true, Bool.not_false, Bool.true_eq_false, Bool.false_eq_true, List.getElem?_cons_zero, List.getElem?_cons_succ, List.nil_append, List.cons_append, reduceCtorEq, eq_self, decide_eq_false_iff_not, not_true_eq_false, not_false_eq_true, Nat.add_zero, Nat.succ_ne_self, Nat.one_ne_zero, Nat.zero_ne_one, rund, List.contains_cons, List.contains_nil, Nat.reduceBEq, Bool.and_true, Bool.true_and, Bool.and_false, Bool.false_and, Bool.or_false, Bool.or_true, Bool.false_or, Bool.true_or, true_or, or_true, true_and, and_true, beq_self_eq_true]
    refine use (rrnum' (by omega) hn20 r8 q2) ?_
    rintro _ h9 ⟨rfl, n9, x9, r9⟩
    have gB9 := blk x9 gB8 (by omega) (show ¬ h5.next = p by omega)
    have gR9 := blk x9 gR8 (by omega) (show ¬ h.next = p by omega)
    have xb9 := xb8.then x9 (by omega) (fun m hm (e : m = p) => by omega)
    simp only [run, Option.map_some, Nat.reduceEqDiff, Nat.reduceAdd, Nat.zero_add, ↓reduceIte, decide_eq_true_eq, decide_true, decide_false, Bool.not_true, Bool.not_false, Bool.true_eq_false, Bool.false_eq_true, List.getElem?_cons_zero, List.getElem?_cons_succ, List.nil_append, List.cons_append, reduceCtorEq, eq_self, decide_eq_false_iff_not, not_true_eq_false, not_false_eq_true, Nat.add_zero, Nat.succ_ne_self, Nat.one_ne_zero, Nat.zero_ne_one, rund, List.contains_cons, List.contains_nil, Nat.reduceBEq, Bool.and_true, Bool.true_and, Bool.and_false, Bool.false_and, Bool.or_false, Bool.or_true, Bool.false_or, Bool.true_or, true_or, or_true, true_and, and_true, beq_self_eq_true]
    obtain ⟨h10, eh10, n10, x10, gB10⟩ := stoC (o := 4) (v := .int .i64 b1) gB9 rfl (by simp)
    simp only [List.set_cons_zero, List.set_cons_succ] at gB10
    have r10 := r9.ext x10 (by omega) (fun m hm (e : m = h5.next) => by omega)
    have gR10 := blk x10 gR9 (by omega) (show ¬ h.next = h5.next by omega)
    have xb10 := xb9.then x10 (by omega) (fun m hm (e : m = h5.next) => by omega)
    simp only [run, Option.map_some, Nat.reduceEqDiff, Nat.reduceAdd, Nat.zero_add, ↓reduceIte, decide_eq_true_eq, decide_true, decide_false, Bool.not_true, Bool.not_false, Bool.true_eq_false, Bool.false_eq_true, List.getElem?_cons_zero, List.getElem?_cons_succ, List.nil_append, List.cons_append, reduceCtorEq, eq_self, decide_eq_false_iff_not, not_true_eq_false, not_false_eq_true, Nat.add_zero, Nat.succ_ne_self, Nat.one_ne_zero, Nat.zero_ne_one, rund, List.contains_cons, List.contains_nil, Nat.reduceBEq, Bool.and_true, Bool.true_and, Bool.and_false, Bool.false_and, Bool.or_false, Bool.or_true, Bool.false_or, Bool.true_or, true_or, or_true, true_and, and_true, beq_self_eq_true, eh10]
    obtain ⟨h11, eh11, n11, x11, gB11⟩ := stoC (o := 5) (v := .int .i64 b2) gB10 rfl (by simp)
    simp only [List.set_cons_zero, List.set_cons_succ] at gB11
    have r11 := r10.ext x11 (by omega) (fun m hm (e : m = h5.next) => by omega)
    have gR11 := blk x11 gR10 (by omega) (show ¬ h.next = h5.next by omega)
    have xb11 := xb10.then x11 (by omega) (fun m hm (e : m = h5.next) => by omega)
    simp only [run, Option.map_some, Nat.reduceEqDiff, Nat.reduceAdd, Nat.zero_add, ↓reduceIte, decide_eq_true_eq, decide_true, decide_false, Bool.not_true, Bool.not_false, Bool.true_eq_false, Bool.false_eq_true, List.getElem?_cons_zero, List.getElem?_cons_succ, List.nil_append, List.cons_append, reduceCtorEq, eq_self, decide_eq_false_iff_not, not_true_eq_false, not_false_eq_true, Nat.add_zero, Nat.succ_ne_self, Nat.one_ne_zero, Nat.zero_ne_one, rund, List.contains_cons, List.contains_nil, Nat.reduceBEq, Bool.and_true, Bool.true_and, Bool.and_false, Bool.false_and, Bool.or_false, Bool.or_true, Bool.false_or, Bool.true_or, true_or, or_true, true_and, and_true, beq_self_eq_true, eh11]
    refine use (rrnum' (by omega) hn20 r11 q3) ?_
    rintro _ h12 ⟨rfl, n12, x12, r12⟩
    have gB12 := blk x12 gB11 (by omega) (show ¬ h5.next = p by omega)
    have gR12 := blk x12 gR11 (by omega) (show ¬ h.next = p by omega)
    have xb12 := xb11.then x12 (by omega) (fun m hm (e : m = p) => by omega)
    simp only [run, Option.map_some, Nat.reduceEqDiff, Nat.reduceAdd, Nat.zero_add, ↓reduceIte, decide_eq_true_eq, decide_true, decide_false, Bool.not_true, Bool.not_false, Bool.true_eq_false, Bool.false_eq_true, List.getElem?_cons_zero, List.getElem?_cons_succ, List.nil_append, List.cons_append, reduceCtorEq, eq_self, decide_eq_false_iff_not, not_true_eq_false, not_false_eq_true, Nat.add_zero, Nat.succ_ne_self, Nat.one_ne_zero, Nat.zero_ne_one, rund, List.contains_cons, List.contains_nil, Nat.reduceBEq, Bool.and_true, Bool.true_and, Bool.and_false, Bool.false_and, Bool.or_false, Bool.or_true, Bool.false_or, Bool.true_or, true_or, or_true, true_and, and_true, beq_self_eq_true]
    obtain ⟨h13, eh13, n13, x13, gB13⟩ := stoC (o := 6) (v := .bool (decide ((b3 : Int) = 1))) gB12 rfl (by simp)
    simp only [List.set_cons_zero, List.set_cons_succ] at gB13
    have r13 := r12.ext x13 (by omega) (fun m hm (e : m = h5.next) => by omega)
    have gR13 := blk x13 gR12 (by omega) (show ¬ h.next = h5.next by omega)
    have xb13 := xb12.then x13 (by omega) (fun m hm (e : m = h5.next) => by omega)
    simp only [run, Option.map_some, Nat.reduceEqDiff, Nat.reduceAdd, Nat.zero_add, ↓reduceIte, decide_eq_true_eq, decide_true, decide_false, Bool.not_true, Bool.not_false, Bool.true_eq_false, Bool.false_eq_true, List.getElem?_cons_zero, List.getElem?_cons_succ, List.nil_append, List.cons_append, reduceCtorEq, eq_self, decide_eq_false_iff_not, not_true_eq_false, not_false_eq_true, Nat.add_zero, Nat.succ_ne_self, Nat.one_ne_zero, Nat.zero_ne_one, rund, List.contains_cons, List.contains_nil, Nat.reduceBEq, Bool.and_true, Bool.true_and, Bool.and_false, Bool.false_and, Bool.or_false, Bool.or_true, Bool.false_or, Bool.true_or, true_or, or_true, true_and, and_true, beq_self_eq_true, eh13]
    have rep : RepM h0.next h13.next h13 [.int .i64 k, .int .i64 a2, .int .i64 a3, .int .i64 a4, .int .i64 b1, .int .i64 b2, .bool (decide ((b3 : Int) = 1)), .int .i64 0, .int .i64 0, .int .i64 0, .int .i64 0, .slice none 0 0, .int .i64 0, .int .i64 0, .slice none 0 0, .slice none 0 0, .int .i64 0, .int .i64 0, .int .i64 0, .int .i64 0, .int .i64 0, .slice none 0 0, .slice none 0 0, .slice none 0 0] { ({ zeroM with kind := k, src := a2, dst := a3, view := a4 } : Msg) with inst := b1, len := b2, has := decide ((b3 : Int) = 1) } :=
      ⟨_, _, _, _, _, _, rfl, Sl.nil, Sl.nil, Sl.nil, Sl.nil, Sl.nil, Sl.nil⟩
    have L := fun i => ld_cell (o := i) gB13 (by decide)
    simp only [run, Option.map_some, Nat.reduceEqDiff, Nat.reduceAdd, Nat.zero_add, ↓reduceIte, decide_eq_true_eq, decide_true, decide_false, Bool.not_true, Bool.not_false, Bool.true_eq_false, Bool.false_eq_true, List.getElem?_cons_zero, List.getElem?_cons_succ, List.nil_append, List.cons_append, reduceCtorEq, eq_self, decide_eq_false_iff_not, not_true_eq_false, not_false_eq_true, Nat.add_zero, Nat.succ_ne_self, Nat.one_ne_zero, Nat.zero_ne_one, rund, List.contains_cons, List.contains_nil, Nat.reduceBEq, Bool.and_true, Bool.true_and, Bool.and_false, Bool.false_and, Bool.or_false, Bool.or_true, Bool.false_or, Bool.true_or, true_or, or_true, true_and, and_true, beq_self_eq_true, L, T0]
    refine useE (rrend_spec (by omega) r13) ?_
    by_cases hz : u3 = some []
    · obtain ⟨g', f1, f3, f6, f7⟩ := fin h13 _ { ({ zeroM with kind := k, src := a2, dst := a3, view := a4 } : Msg) with inst := b1, len := b2, has := decide ((b3 : Int) = 1) } gR13 rep xb13
      have f2 := ld_whole (k := 24) gB13 (by decide) rfl
      simp only [run, Option.map_some, Nat.reduceEqDiff, Nat.reduceAdd, Nat.zero_add, ↓reduceIte, decide_eq_true_eq, decide_true, decide_false, Bool.not_true, Bool.not_false, Bool.true_eq_false, Bool.false_eq_true, List.getElem?_cons_zero, List.getElem?_cons_succ, List.nil_append, List.cons_append, reduceCtorEq, eq_self, decide_eq_false_iff_not, not_true_eq_false, not_false_eq_true, Nat.add_zero, Nat.succ_ne_self, Nat.one_ne_zero, Nat.zero_ne_one, rund, List.contains_cons, List.contains_nil, Nat.reduceBEq, Bool.and_true, Bool.true_and, Bool.and_false, Bool.false_and, Bool.or_false, Bool.or_true, Bool.false_or, Bool.true_or, true_or, or_true, true_and, and_true, beq_self_eq_true, hz, f2]
      refine use1 f1 ?_
      simp only [run, Option.map_some, Nat.reduceEqDiff, Nat.reduceAdd, Nat.zero_add, ↓reduceIte, decide_eq_true_eq, decide_true, decide_false, Bool.not_true, Bool.not_false, Bool.true_eq_false, Bool.false_eq_true, List.getElem?_cons_zero, List.getElem?_cons_succ, List.nil_append, List.cons_append, reduceCtorEq, eq_self, decide_eq_false_iff_not, not_true_eq_false, not_false_eq_true, Nat.add_zero, Nat.succ_ne_self, Nat.one_ne_zero, Nat.zero_ne_one, rund, List.contains_cons, List.contains_nil, Nat.reduceBEq, Bool.and_true, Bool.true_and, Bool.and_false, Bool.false_and, Bool.or_false, Bool.or_true, Bool.false_or, Bool.true_or, true_or, or_true, true_and, and_true, beq_self_eq_true, f3, hz, if_neg kz]
      exact ⟨f6, _, rfl, f7⟩
    · simp only [run, Option.map_some, Nat.reduceEqDiff, Nat.reduceAdd, Nat.zero_add, ↓reduceIte, decide_eq_true_eq, decide_true, decide_false, Bool.not_true, Bool.not_false, Bool.true_eq_false, Bool.false_eq_true, List.getElem?_cons_zero, List.getElem?_cons_succ, List.nil_append, List.cons_append, reduceCtorEq, eq_self, decide_eq_false_iff_not, not_true_eq_false, not_false_eq_true, Nat.add_zero, Nat.succ_ne_self, Nat.one_ne_zero, Nat.zero_ne_one, rund, List.contains_cons, List.contains_nil, Nat.reduceBEq, Bool.and_true, Bool.true_and, Bool.and_false, Bool.false_and, Bool.or_false, Bool.or_true, Bool.false_or, Bool.true_or, true_or, or_true, true_and, and_true, beq_self_eq_true, hz]
      refine use1 (v := [.int .i64 0, .int .i64 0, .int .i64 0, .int .i64 0, .int .i64 0, .int .i64 0, .bool false, .int .i64 0, .int .i64 0, .int .i64 0, .int .i64 0, .slice none 0 0, .int .i64 0, .int .i64 0, .slice none 0 0, .slice none 0 0, .int .i64 0, .int .i64 0, .int .i64 0, .int .i64 0, .int .i64 0, .slice none 0 0, .slice none 0 0, .slice none 0 0]) rfl ?_
      (try simp only [run, Option.map_some, Nat.reduceEqDiff, Nat.reduceAdd, Nat.zero_add, ↓reduceIte, decide_eq_true_eq, decide_true, decide_false, Bool.not_true, Bool.not_false, Bool.true_eq_false, Bool.false_eq_true, List.getElem?_cons_zero, List.getElem?_cons_succ, List.nil_append, List.cons_append, reduceCtorEq, eq_self, decide_eq_false_iff_not, not_true_eq_false, not_false_eq_true, Nat.add_zero, Nat.succ_ne_self, Nat.one_ne_zero, Nat.zero_ne_one])
      obtain ⟨g', f1, f2, f3, f4⟩ := stoW (k := 24) (vs := [.int .i64 0, .int .i64 0, .int .i64 0, .int .i64 0, .int .i64 0, .int .i64 0, .bool false, .int .i64 0, .int .i64 0, .int .i64 0, .int .i64 0, .slice none 0 0, .int .i64 0, .int .i64 0, .slice none 0 0, .slice none 0 0, .int .i64 0, .int .i64 0, .int .i64 0, .int .i64 0, .int .i64 0, .slice none 0 0, .slice none 0 0, .slice none 0 0]) gR13 rfl rfl rfl (by simp)
      refine use1 f1 ?_
      simp only [run, Option.map_some, Nat.reduceEqDiff, Nat.reduceAdd, Nat.zero_add, ↓reduceIte, decide_eq_true_eq, decide_true, decide_false, Bool.not_true, Bool.not_false, Bool.true_eq_false, Bool.false_eq_true, List.getElem?_cons_zero, List.getElem?_cons_succ, List.nil_append, List.cons_append, reduceCtorEq, eq_self, decide_eq_false_iff_not, not_true_eq_false, not_false_eq_true, Nat.add_zero, Nat.succ_ne_self, Nat.one_ne_zero, Nat.zero_ne_one, rund, List.contains_cons, List.contains_nil, Nat.reduceBEq, Bool.and_true, Bool.true_and, Bool.and_false, Bool.false_and, Bool.or_false, Bool.or_true, Bool.false_or, Bool.true_or, true_or, or_true, true_and, and_true, beq_self_eq_true, ld_whole (k := 24) f4 (by decide) rfl, hz, if_neg kz]
      exact ⟨xb13.then f3 xb13.next (fun m hm (e : m = h.next) => by omega), _, rfl, _, _, _, _, _, _, rfl, Sl.nil, Sl.nil, Sl.nil, Sl.nil, Sl.nil, Sl.nil⟩
  by_cases k3 : k = 3
  · have kz : ¬ (k : Int) = 0 := by omega
    have T0 : ((k : Int) = 0) = False := eq_false (by omega)
    have T2 : ((k : Int) = 2) = False := eq_false (by omega)
    have T3 : ((k : Int) = 3) = True := eq_true (by omega)
    have T4 : ((k : Int) = 4) = False := eq_false (by omega)
    have T5 : ((k : Int) = 5) = False := eq_false (by omega)
    have T7 : ((k : Int) = 7) = False := eq_false (by omega)
    have T8 : ((k : Int) = 8) = False := eq_false (by omega)
    rcases q1 : rdNum 127 s4 with ⟨b1, u1⟩
    rcases q2 : rdNum 6 u1 with ⟨b2, u2⟩
    rcases q3 : rdNum 1099511627776 u2 with ⟨b3, u3⟩
    have eb : rdBody { zeroM with kind := k, src := a2, dst := a3, view := a4 } s4 = ({ ({ zeroM with kind := k, src := a2, dst := a3, view := a4 } : Msg) with members := b1, source := b2, len := b3 }, u3) := by
      unfold rdBody; simp only [T0, T2, T3, T4, T5, T7, T8, if_false, if_true, q1, q2, q3]
    rw [eb]
    simp only [run, Option.map_some, Nat.reduceEqDiff, Nat.reduceAdd, Nat.zero_add, ↓reduceIte, decide_eq_true_eq, decide_true, decide_false, Bool.not_true, Bool.not_false, Bool.true_eq_false, Bool.false_eq_true, List.getElem?_cons_zero, List.getElem?_cons_succ, List.nil_append, List.cons_append, reduceCtorEq, eq_self, decide_eq_false_iff_not, not_true_eq_false, not_false_eq_true, Nat.add_zero, Nat.succ_ne_self, Nat.one_ne_zero, Nat.zero_ne_one, rund, List.contains_cons, List.contains_nil, Nat.reduceBEq, Bool.and_true, Bool.true_and, Bool.and_false, Bool.false_and, Bool.or_false, Bool.or_true, Bool.false_or, Bool.true_or, true_or, or_true, true_and, and_true, beq_self_eq_true, L7, T0, T2, T3, T4, T5, T7, T8]
    refine use (rrnum' (by omega) hn20 r7 q1) ?_
    rintro _ h8 ⟨rfl, n8, x8, r8⟩
    have gB8 := blk x8 gB7 (by omega) (show ¬ h5.next = p by omega)
    have gR8 := blk x8 gR7 (by omega) (show ¬ h.next = p by omega)
    have xb8 := xb7.then x8 (by omega) (fun m hm (e : m = p) => by omega)
    simp only [run, Option.map_some, Nat.reduceEqDiff, Nat.reduceAdd, Nat.zero_add, ↓reduceIte, decide_eq_true_eq, decide_true, decide_false, Bool.not_true, Bool.not_false, Bool.true_eq_false, Bool.false_eq_true, List.getElem?_cons_zero, List.getElem?_cons_succ, List.nil_append, List.cons_append, reduceCtorEq, eq_self, decide_eq_false_iff_not, not_true_eq_false, not_false_eq_true, Nat.add_zero, Nat.succ_ne_self, Nat.one_ne_zero, Nat.zero_ne_one, rund, List.contains_cons, List.contains_nil, Nat.reduceBEq, Bool.and_true, Bool.true_and, Bool.and_false, Bool.false_and, Bool.or_false, Bool.or_true, Bool.false_or, Bool.true_or, true_or, or_true, true_and, and_true, beq_self_eq_true]
    refine use (rrnum' (by omega) hn20 r8 q2) ?_
    rintro _ h9 ⟨rfl, n9, x9, r9⟩
    have gB9 := blk x9 gB8 (by omega) (show ¬ h5.next = p by omega)
    have gR9 := blk x9 gR8 (by omega) (show ¬ h.next = p by omega)
    have xb9 := xb8.then x9 (by omega) (fun m hm (e : m = p) => by omega)
    simp only [run, Option.map_some, Nat.reduceEqDiff, Nat.reduceAdd, Nat.zero_add, ↓reduceIte, decide_eq_true_eq, decide_true, decide_false, Bool.not_true, Bool.not_false, Bool.true_eq_false, Bool.false_eq_true, List.getElem?_cons_zero, List.getElem?_cons_succ, List.nil_append, List.cons_append, reduceCtorEq, eq_self, decide_eq_false_iff_not, not_true_eq_false, not_false_eq_true, Nat.add_zero, Nat.succ_ne_self, Nat.one_ne_zero, Nat.zero_ne_one, rund, List.contains_cons, List.contains_nil, Nat.reduceBEq, Bool.and_true, Bool.true_and, Bool.and_false, Bool.false_and, Bool.or_false, Bool.or_true, Bool.false_or, Bool.true_or, true_or, or_true, true_and, and_true, beq_self_eq_true]
    refine use (rrnum' (by omega) hn20 r9 q3) ?_
    rintro _ h10 ⟨rfl, n10, x10, r10⟩
    have gB10 := blk x10 gB9 (by omega) (show ¬ h5.next = p by omega)
    have gR10 := blk x10 gR9 (by omega) (show ¬ h.next = p by omega)
    have xb10 := xb9.then x10 (by omega) (fun m hm (e : m = p) => by omega)
    simp only [run, Option.map_some, Nat.reduceEqDiff, Nat.reduceAdd, Nat.zero_add, ↓reduceIte, decide_eq_true_eq, decide_true, decide_false, Bool.not_true, Bool.not_false, Bool.true_eq_false, Bool.false_eq_true, List.getElem?_cons_zero, List.getElem?_cons_succ, List.nil_append, List.cons_append, reduceCtorEq, eq_self, decide_eq_false_iff_not, not_true_eq_false, not_false_eq_true, Nat.add_zero, Nat.succ_ne_self, Nat.one_ne_zero, Nat.zero_ne_one, rund, List.contains_cons, List.contains_nil, Nat.reduceBEq, Bool.and_true, Bool.true_and, Bool.and_false, Bool.false_and, Bool.or_false, Bool.or_true, Bool.false_or, Bool.true_or, true_or, or_true, true_and, and_true, beq_self_eq_true]
    obtain ⟨h11, eh11, n11, x11, gB11⟩ := stoC (o := 7) (v := .int .i64 b1) gB10 rfl (by simp)
    simp only [List.set_cons_zero, List.set_cons_succ] at gB11
    have r11 := r10.ext x11 (by omega) (fun m hm (e : m = h5.next) => by omega)
    have gR11 := blk x11 gR10 (by omega) (show ¬ h.next = h5.next by omega)
    have xb11 := xb10.then x11 (by omega) (fun m hm (e : m = h5.next) => by omega)
    simp only [run, Option.map_some, Nat.reduceEqDiff, Nat.reduceAdd, Nat.zero_add, ↓reduceIte, decide_eq_true_eq, decide_true, decide_false, Bool.not_true, Bool.not_false, Bool.true_eq_false, Bool.false_eq_true, List.getElem?_cons_zero, List.getElem?_cons_succ, List.nil_append, List.cons_append, reduceCtorEq, eq_self, decide_eq_false_iff_not, not_true_eq_false, not_false_eq_true, Nat.add_zero, Nat.succ_ne_self, Nat.one_ne_zero, Nat.zero_ne_one, rund, List.contains_cons, List.contains_nil, Nat.reduceBEq, Bool.and_true, Bool.true_and, Bool.and_false, Bool.false_and, Bool.or_false, Bool.or_true, Bool.false_or, Bool.true_or, true_or, or_true, true_and, and_true, beq_self_eq_true, eh11]
    obtain ⟨h12, eh12, n12, x12, gB12⟩ := stoC (o := 8) (v := .int .i64 b2) gB11 rfl (by simp)
    simp only [List.set_cons_zero, List.set_cons_succ] at gB12
    have r12 := r11.ext x12 (by omega) (fun m hm (e : m = h5.next) => by omega)
    have gR12 := blk x12 gR11 (by omega) (show ¬ h.next = h5.next by omega)
    have xb12 := xb11.then x12 (by omega) (fun m hm (e : m = h5.next) => by omega)
    simp only [run, Option.map_some, Nat.reduceEqDiff, Nat.reduceAdd, Nat.zero_add, ↓reduceIte, decide_eq_true_eq, decide_true, decide_false, Bool.not_true, Bool.not_false, Bool.true_eq_false, Bool.false_eq_true, List.getElem?_cons_zero, List.getElem?_cons_succ, List.nil_append, List.cons_append, reduceCtorEq, eq_self, decide_eq_false_iff_not, not_true_eq_false, not_false_eq_true, Nat.add_zero, Nat.succ_ne_self, Nat.one_ne_zero, Nat.zero_ne_one, rund, List.contains_cons, List.contains_nil, Nat.reduceBEq, Bool.and_true, Bool.true_and, Bool.and_false, Bool.false_and, Bool.or_false, Bool.or_true, Bool.false_or, Bool.true_or, true_or, or_true, true_and, and_true, beq_self_eq_true, eh12]
    obtain ⟨h13, eh13, n13, x13, gB13⟩ := stoC (o := 5) (v := .int .i64 b3) gB12 rfl (by simp)
    simp only [List.set_cons_zero, List.set_cons_succ] at gB13
    have r13 := r12.ext x13 (by omega) (fun m hm (e : m = h5.next) => by omega)
    have gR13 := blk x13 gR12 (by omega) (show ¬ h.next = h5.next by omega)
    have xb13 := xb12.then x13 (by omega) (fun m hm (e : m = h5.next) => by omega)
    simp only [run, Option.map_some, Nat.reduceEqDiff, Nat.reduceAdd, Nat.zero_add, ↓reduceIte, decide_eq_true_eq, decide_true, decide_false, Bool.not_true, Bool.not_false, Bool.true_eq_false, Bool.false_eq_true, List.getElem?_cons_zero, List.getElem?_cons_succ, List.nil_append, List.cons_append, reduceCtorEq, eq_self, decide_eq_false_iff_not, not_true_eq_false, not_false_eq_true, Nat.add_zero, Nat.succ_ne_self, Nat.one_ne_zero, Nat.zero_ne_one, rund, List.contains_cons, List.contains_nil, Nat.reduceBEq, Bool.and_true, Bool.true_and, Bool.and_false, Bool.false_and, Bool.or_false, Bool.or_true, Bool.false_or, Bool.true_or, true_or, or_true, true_and, and_true, beq_self_eq_true, eh13]
    have rep : RepM h0.next h13.next h13 [.int .i64 k, .int .i64 a2, .int .i64 a3, .int .i64 a4, .int .i64 0, .int .i64 b3, .bool false, .int .i64 b1, .int .i64 b2, .int .i64 0, .int .i64 0, .slice none 0 0, .int .i64 0, .int .i64 0, .slice none 0 0, .slice none 0 0, .int .i64 0, .int .i64 0, .int .i64 0, .int .i64 0, .int .i64 0, .slice none 0 0, .slice none 0 0, .slice none 0 0] { ({ zeroM with kind := k, src := a2, dst := a3, view := a4 } : Msg) with members := b1, source := b2, len := b3 } :=
      ⟨_, _, _, _, _, _, rfl, Sl.nil, Sl.nil, Sl.nil, Sl.nil, Sl.nil, Sl.nil⟩
    have L := fun i => ld_cell (o := i) gB13 (by decide)
    simp only [run, Option.map_some, Nat.reduceEqDiff, Nat.reduceAdd, Nat.zero_add, ↓reduceIte, decide_eq_true_eq, decide_true, decide_false, Bool.not_true, Bool.not_false, Bool.true_eq_false, Bool.false_eq_true, List.getElem?_cons_zero, List.getElem?_cons_succ, List.nil_append, List.cons_append, reduceCtorEq, eq_self, decide_eq_false_iff_not, not_true_eq_false, not_false_eq_true, Nat.add_zero, Nat.succ_ne_self, Nat.one_ne_zero, Nat.zero_ne_one, rund, List.contains_cons, List.contains_nil, Nat.reduceBEq, Bool.and_true, Bool.true_and, Bool.and_false, Bool.false_and, Bool.or_false, Bool.or_true, Bool.false_or, Bool.true_or, true_or, or_true, true_and, and_true, beq_self_eq_true, L, T0]
    refine useE (rrend_spec (by omega) r13) ?_
    by_cases hz : u3 = some []
    · obtain ⟨g', f1, f3, f6, f7⟩ := fin h13 _ { ({ zeroM with kind := k, src := a2, dst := a3, view := a4 } : Msg) with members := b1, source := b2, len := b3 } gR13 rep xb13
      have f2 := ld_whole (k := 24) gB13 (by decide) rfl
      simp only [run, Option.map_some, Nat.reduceEqDiff, Nat.reduceAdd, Nat.zero_add, ↓reduceIte, decide_eq_true_eq, decide_true, decide_false, Bool.not_true, Bool.not_false, Bool.true_eq_false, Bool.false_eq_true, List.getElem?_cons_zero, List.getElem?_cons_succ, List.nil_append, List.cons_append, reduceCtorEq, eq_self, decide_eq_false_iff_not, not_true_eq_false, not_false_eq_true, Nat.add_zero, Nat.succ_ne_self, Nat.one_ne_zero, Nat.zero_ne_one, rund, List.contains_cons, List.contains_nil, Nat.reduceBEq, Bool.and_true, Bool.true_and, Bool.and_false, Bool.false_and, Bool.or_false, Bool.or_true, Bool.false_or, Bool.true_or, true_or, or_true, true_and, and_true, beq_self_eq_true, hz, f2]
      refine use1 f1 ?_
      simp only [run, Option.map_some, Nat.reduceEqDiff, Nat.reduceAdd, Nat.zero_add, ↓reduceIte, decide_eq_true_eq, decide_true, decide_false, Bool.not_true, Bool.not_false, Bool.true_eq_false, Bool.false_eq_true, List.getElem?_cons_zero, List.getElem?_cons_succ, List.nil_append, List.cons_append, reduceCtorEq, eq_self, decide_eq_false_iff_not, not_true_eq_false, not_false_eq_true, Nat.add_zero, Nat.succ_ne_self, Nat.one_ne_zero, Nat.zero_ne_one, rund, List.contains_cons, List.contains_nil, Nat.reduceBEq, Bool.and_true, Bool.true_and, Bool.and_false, Bool.false_and, Bool.or_false, Bool.or_true, Bool.false_or, Bool.true_or, true_or, or_true, true_and, and_true, beq_self_eq_true, f3, hz, if_neg kz]
      exact ⟨f6, _, rfl, f7⟩
    · simp only [run, Option.map_some, Nat.reduceEqDiff, Nat.reduceAdd, Nat.zero_add, ↓reduceIte, decide_eq_true_eq, decide_true, decide_false, Bool.not_true, Bool.not_false, Bool.true_eq_false, Bool.false_eq_true, List.getElem?_cons_zero, List.getElem?_cons_succ, List.nil_append, List.cons_append, reduceCtorEq, eq_self, decide_eq_false_iff_not, not_true_eq_false, not_false_eq_true, Nat.add_zero, Nat.succ_ne_self, Nat.one_ne_zero, Nat.zero_ne_one, rund, List.contains_cons, List.contains_nil, Nat.reduceBEq, Bool.and_true, Bool.true_and, Bool.and_false, Bool.false_and, Bool.or_false, Bool.or_true, Bool.false_or, Bool.true_or, true_or, or_true, true_and, and_true, beq_self_eq_true, hz]
      refine use1 (v := [.int .i64 0, .int .i64 0, .int .i64 0, .int .i64 0, .int .i64 0, .int .i64 0, .bool false, .int .i64 0, .int .i64 0, .int .i64 0, .int .i64 0, .slice none 0 0, .int .i64 0, .int .i64 0, .slice none 0 0, .slice none 0 0, .int .i64 0, .int .i64 0, .int .i64 0, .int .i64 0, .int .i64 0, .slice none 0 0, .slice none 0 0, .slice none 0 0]) rfl ?_
      (try simp only [run, Option.map_some, Nat.reduceEqDiff, Nat.reduceAdd, Nat.zero_add, ↓reduceIte, decide_eq_true_eq, decide_true, decide_false, Bool.not_true, Bool.not_false, Bool.true_eq_false, Bool.false_eq_true, List.getElem?_cons_zero, List.getElem?_cons_succ, List.nil_append, List.cons_append, reduceCtorEq, eq_self, decide_eq_false_iff_not, not_true_eq_false, not_false_eq_true, Nat.add_zero, Nat.succ_ne_self, Nat.one_ne_zero, Nat.zero_ne_one])
      obtain ⟨g', f1, f2, f3, f4⟩ := stoW (k := 24) (vs := [.int .i64 0, .int .i64 0, .int .i64 0, .int .i64 0, .int .i64 0, .int .i64 0, .bool false, .int .i64 0, .int .i64 0, .int .i64 0, .int .i64 0, .slice none 0 0, .int .i64 0, .int .i64 0, .slice none 0 0, .slice none 0 0, .int .i64 0, .int .i64 0, .int .i64 0, .int .i64 0, .int .i64 0, .slice none 0 0, .slice none 0 0, .slice none 0 0]) gR13 rfl rfl rfl (by simp)
      refine use1 f1 ?_
      simp only [run, Option.map_some, Nat.reduceEqDiff, Nat.reduceAdd, Nat.zero_add, ↓reduceIte, decide_eq_true_eq, decide_true, decide_false, Bool.not_true, Bool.not_false, Bool.true_eq_false, Bool.false_eq_true, List.getElem?_cons_zero, List.getElem?_cons_succ, List.nil_append, List.cons_append, reduceCtorEq, eq_self, decide_eq_false_iff_not, not_true_eq_false, not_false_eq_true, Nat.add_zero, Nat.succ_ne_self, Nat.one_ne_zero, Nat.zero_ne_one, rund, List.contains_cons, List.contains_nil, Nat.reduceBEq, Bool.and_true, Bool.true_and, Bool.and_false, Bool.false_and, Bool.or_false, Bool.or_true, Bool.false_or, Bool.true_or, true_or, or_true, true_and, and_true, beq_self_eq_true, ld_whole (k := 24) f4 (by decide) rfl, hz, if_neg kz]
      exact ⟨xb13.then f3 xb13.next (fun m hm (e : m = h.next) => by omega), _, rfl, _, _, _, _, _, _, rfl, Sl.nil, Sl.nil, Sl.nil, Sl.nil, Sl.nil, Sl.nil⟩
  by_cases k4 : k = 4
  · have kz : ¬ (k : Int) = 0 := by omega
    have T0 : ((k : Int) = 0) = False := eq_false (by omega)
    have T2 : ((k : Int) = 2) = False := eq_false (by omega)
    have T3 : ((k : Int) = 3) = False := eq_false (by omega)
    have T4 : ((k : Int) = 4) = True := eq_true (by omega)
    have T5 : ((k : Int) = 5) = False := eq_false (by omega)
    have T7 : ((k : Int) = 7) = False := eq_false (by omega)
    have T8 : ((k : Int) = 8) = False := eq_false (by omega)
    rcases q1 : rdNum 1099511627776 s4 with ⟨b1, u1⟩
    have eb : rdBody { zeroM with kind := k, src := a2, dst := a3, view := a4 } s4 = ({ ({ zeroM with kind := k, src := a2, dst := a3, view := a4 } : Msg) with place := b1 }, u1) := by
      unfold rdBody; simp only [T0, T2, T3, T4, T5, T7, T8, if_false, if_true, q1]
    rw [eb]
    simp only [run, Option.map_some, Nat.reduceEqDiff, Nat.reduceAdd, Nat.zero_add, ↓reduceIte, decide_eq_true_eq, decide_true, decide_false, Bool.not_true, Bool.not_false, Bool.true_eq_false, Bool.false_eq_true, List.getElem?_cons_zero, List.getElem?_cons_succ, List.nil_append, List.cons_append, reduceCtorEq, eq_self, decide_eq_false_iff_not, not_true_eq_false, not_false_eq_true, Nat.add_zero, Nat.succ_ne_self, Nat.one_ne_zero, Nat.zero_ne_one, rund, List.contains_cons, List.contains_nil, Nat.reduceBEq, Bool.and_true, Bool.true_and, Bool.and_false, Bool.false_and, Bool.or_false, Bool.or_true, Bool.false_or, Bool.true_or, true_or, or_true, true_and, and_true, beq_self_eq_true, L7, T0, T2, T3, T4, T5, T7, T8]
    refine use (rrnum' (by omega) hn20 r7 q1) ?_
    rintro _ h8 ⟨rfl, n8, x8, r8⟩
    have gB8 := blk x8 gB7 (by omega) (show ¬ h5.next = p by omega)
    have gR8 := blk x8 gR7 (by omega) (show ¬ h.next = p by omega)
    have xb8 := xb7.then x8 (by omega) (fun m hm (e : m = p) => by omega)
    simp only [run, Option.map_some, Nat.reduceEqDiff, Nat.reduceAdd, Nat.zero_add, ↓reduceIte, decide_eq_true_eq, decide_true, decide_false, Bool.not_true, Bool.not_false, Bool.true_eq_false, Bool.false_eq_true, List.getElem?_cons_zero, List.getElem?_cons_succ, List.nil_append, List.cons_append, reduceCtorEq, eq_self, decide_eq_false_iff_not, not_true_eq_false, not_false_eq_true, Nat.add_zero, Nat.succ_ne_self, Nat.one_ne_zero, Nat.zero_ne_one, rund, List.contains_cons, List.contains_nil, Nat.reduceBEq, Bool.and_true, Bool.true_and, Bool.and_false, Bool.false_and, Bool.or_false, Bool.or_true, Bool.false_or, Bool.true_or, true_or, or_true, true_and, and_true, beq_self_eq_true]
    obtain ⟨h9, eh9, n9, x9, gB9⟩ := stoC (o := 9) (v := .int .i64 b1) gB8 rfl (by simp)
    simp only [List.set_cons_zero, List.set_cons_succ] at gB9
    have r9 := r8.ext x9 (by omega) (fun m hm (e : m = h5.next) => by omega)
    have gR9 := blk x9 gR8 (by omega) (show ¬ h.next = h5.next by omega)
    have xb9 := xb8.then x9 (by omega) (fun m hm (e : m = h5.next) => by omega)
    simp only [run, Option.map_some, Nat.reduceEqDiff, Nat.reduceAdd, Nat.zero_add, ↓reduceIte, decide_eq_true_eq, decide_true, decide_false, Bool.not_true, Bool.not_false, Bool.true_eq_false, Bool.false_eq_true, List.getElem?_cons_zero, List.getElem?_cons_succ, List.nil_append, List.cons_append, reduceCtorEq, eq_self, decide_eq_false_iff_not, not_true_eq_false, not_false_eq_true, Nat.add_zero, Nat.succ_ne_self, Nat.one_ne_zero, Nat.zero_ne_one, rund, List.contains_cons, List.contains_nil, Nat.reduceBEq, Bool.and_true, Bool.true_and, Bool.and_false, Bool.false_and, Bool.or_false, Bool.or_true, Bool.false_or, Bool.true_or, true_or, or_true, true_and, and_true, beq_self_eq_true, eh9]
    have rep : RepM h0.next h9.next h9 [.int .i64 k, .int .i64 a2, .int .i64 a3, .int .i64 a4, .int .i64 0, .int .i64 0, .bool false, .int .i64 0, .int .i64 0, .int .i64 b1, .int .i64 0, .slice none 0 0, .int .i64 0, .int .i64 0, .slice none 0 0, .slice none 0 0, .int .i64 0, .int .i64 0, .int .i64 0, .int .i64 0, .int .i64 0, .slice none 0 0, .slice none 0 0, .slice none 0 0] { ({ zeroM with kind := k, src := a2, dst := a3, view := a4 } : Msg) with place := b1 } :=
      ⟨_, _, _, _, _, _, rfl, Sl.nil, Sl.nil, Sl.nil, Sl.nil, Sl.nil, Sl.nil⟩
    have L := fun i => ld_cell (o := i) gB9 (by decide)
    simp only [run, Option.map_some, Nat.reduceEqDiff, Nat.reduceAdd, Nat.zero_add, ↓reduceIte, decide_eq_true_eq, decide_true, decide_false, Bool.not_true, Bool.not_false, Bool.true_eq_false, Bool.false_eq_true, List.getElem?_cons_zero, List.getElem?_cons_succ, List.nil_append, List.cons_append, reduceCtorEq, eq_self, decide_eq_false_iff_not, not_true_eq_false, not_false_eq_true, Nat.add_zero, Nat.succ_ne_self, Nat.one_ne_zero, Nat.zero_ne_one, rund, List.contains_cons, List.contains_nil, Nat.reduceBEq, Bool.and_true, Bool.true_and, Bool.and_false, Bool.false_and, Bool.or_false, Bool.or_true, Bool.false_or, Bool.true_or, true_or, or_true, true_and, and_true, beq_self_eq_true, L, T0]
    refine useE (rrend_spec (by omega) r9) ?_
    by_cases hz : u1 = some []
    · obtain ⟨g', f1, f3, f6, f7⟩ := fin h9 _ { ({ zeroM with kind := k, src := a2, dst := a3, view := a4 } : Msg) with place := b1 } gR9 rep xb9
      have f2 := ld_whole (k := 24) gB9 (by decide) rfl
      simp only [run, Option.map_some, Nat.reduceEqDiff, Nat.reduceAdd, Nat.zero_add, ↓reduceIte, decide_eq_true_eq, decide_true, decide_false, Bool.not_true, Bool.not_false, Bool.true_eq_false, Bool.false_eq_true, List.getElem?_cons_zero, List.getElem?_cons_succ, List.nil_append, List.cons_append, reduceCtorEq, eq_self, decide_eq_false_iff_not, not_true_eq_false, not_false_eq_true, Nat.add_zero, Nat.succ_ne_self, Nat.one_ne_zero, Nat.zero_ne_one, rund, List.contains_cons, List.contains_nil, Nat.reduceBEq, Bool.and_true, Bool.true_and, Bool.and_false, Bool.false_and, Bool.or_false, Bool.or_true, Bool.false_or, Bool.true_or, true_or, or_true, true_and, and_true, beq_self_eq_true, hz, f2]
      refine use1 f1 ?_
      simp only [run, Option.map_some, Nat.reduceEqDiff, Nat.reduceAdd, Nat.zero_add, ↓reduceIte, decide_eq_true_eq, decide_true, decide_false, Bool.not_true, Bool.not_false, Bool.true_eq_false, Bool.false_eq_true, List.getElem?_cons_zero, List.getElem?_cons_succ, List.nil_append, List.cons_append, reduceCtorEq, eq_self, decide_eq_false_iff_not, not_true_eq_false, not_false_eq_true, Nat.add_zero, Nat.succ_ne_self, Nat.one_ne_zero, Nat.zero_ne_one, rund, List.contains_cons, List.contains_nil, Nat.reduceBEq, Bool.and_true, Bool.true_and, Bool.and_false, Bool.false_and, Bool.or_false, Bool.or_true, Bool.false_or, Bool.true_or, true_or, or_true, true_and, and_true, beq_self_eq_true, f3, hz, if_neg kz]
      exact ⟨f6, _, rfl, f7⟩
    · simp only [run, Option.map_some, Nat.reduceEqDiff, Nat.reduceAdd, Nat.zero_add, ↓reduceIte, decide_eq_true_eq, decide_true, decide_false, Bool.not_true, Bool.not_false, Bool.true_eq_false, Bool.false_eq_true, List.getElem?_cons_zero, List.getElem?_cons_succ, List.nil_append, List.cons_append, reduceCtorEq, eq_self, decide_eq_false_iff_not, not_true_eq_false, not_false_eq_true, Nat.add_zero, Nat.succ_ne_self, Nat.one_ne_zero, Nat.zero_ne_one, rund, List.contains_cons, List.contains_nil, Nat.reduceBEq, Bool.and_true, Bool.true_and, Bool.and_false, Bool.false_and, Bool.or_false, Bool.or_true, Bool.false_or, Bool.true_or, true_or, or_true, true_and, and_true, beq_self_eq_true, hz]
      refine use1 (v := [.int .i64 0, .int .i64 0, .int .i64 0, .int .i64 0, .int .i64 0, .int .i64 0, .bool false, .int .i64 0, .int .i64 0, .int .i64 0, .int .i64 0, .slice none 0 0, .int .i64 0, .int .i64 0, .slice none 0 0, .slice none 0 0, .int .i64 0, .int .i64 0, .int .i64 0, .int .i64 0, .int .i64 0, .slice none 0 0, .slice none 0 0, .slice none 0 0]) rfl ?_
      (try simp only [run, Option.map_some, Nat.reduceEqDiff, Nat.reduceAdd, Nat.zero_add, ↓reduceIte, decide_eq_true_eq, decide_true, decide_false, Bool.not_true, Bool.not_false, Bool.true_eq_false, Bool.false_eq_true, List.getElem?_cons_zero, List.getElem?_cons_succ, List.nil_append, List.cons_append, reduceCtorEq, eq_self, decide_eq_false_iff_not, not_true_eq_false, not_false_eq_true, Nat.add_zero, Nat.succ_ne_self, Nat.one_ne_zero, Nat.zero_ne_one])
      obtain ⟨g', f1, f2, f3, f4⟩ := stoW (k := 24) (vs := [.int .i64 0, .int .i64 0, .int .i64 0, .int .i64 0, .int .i64 0, .int .i64 0, .bool false, .int .i64 0, .int .i64 0, .int .i64 0, .int .i64 0, .slice none 0 0, .int .i64 0, .int .i64 0, .slice none 0 0, .slice none 0 0, .int .i64 0, .int .i64 0, .int .i64 0, .int .i64 0, .int .i64 0, .slice none 0 0, .slice none 0 0, .slice none 0 0]) gR9 rfl rfl rfl (by simp)
      refine use1 f1 ?_
      simp only [run, Option.map_some, Nat.reduceEqDiff, Nat.reduceAdd, Nat.zero_add, ↓reduceIte, decide_eq_true_eq, decide_true, decide_false, Bool.not_true, Bool.not_false, Bool.true_eq_false, Bool.false_eq_true, List.getElem?_cons_zero, List.getElem?_cons_succ, List.nil_append, List.cons_append, reduceCtorEq, eq_self, decide_eq_false_iff_not, not_true_eq_false, not_false_eq_true, Nat.add_zero, Nat.succ_ne_self, Nat.one_ne_zero, Nat.zero_ne_one, rund, List.contains_cons, List.contains_nil, Nat.reduceBEq, Bool.and_true, Bool.true_and, Bool.and_false, Bool.false_and, Bool.or_false, Bool.or_true, Bool.false_or, Bool.true_or, true_or, or_true, true_and, and_true, beq_self_eq_true, ld_whole (k := 24) f4 (by decide) rfl, hz, if_neg kz]
      exact ⟨xb9.then f3 xb9.next (fun m hm (e : m = h.next) => by omega), _, rfl, _, _, _, _, _, _, rfl, Sl.nil, Sl.nil, Sl.nil, Sl.nil, Sl.nil, Sl.nil⟩
  by_cases k5 : k = 5
  · have kz : ¬ (k : Int) = 0 := by omega
    have T0 : ((k : Int) = 0) = False := eq_false (by omega)
    have T2 : ((k : Int) = 2) = False := eq_false (by omega)
    have T3 : ((k : Int) = 3) = False := eq_false (by omega)
    have T4 : ((k : Int) = 4) = False := eq_false (by omega)
    have T5 : ((k : Int) = 5) = True := eq_true (by omega)
    have T7 : ((k : Int) = 7) = False := eq_false (by omega)
    have T8 : ((k : Int) = 8) = False := eq_false (by omega)
    rcases q1 : rdNum 1099511627776 s4 with ⟨b1, u1⟩
    rcases q2 : rdNum 1099511627776 u1 with ⟨b2, u2⟩
    rcases q3 : rdBytes 64 u2 with ⟨b3, u3⟩
    have eb : rdBody { zeroM with kind := k, src := a2, dst := a3, view := a4 } s4 = ({ ({ zeroM with kind := k, src := a2, dst := a3, view := a4 } : Msg) with place := b1, total := b2, data := b3 }, u3) := by
      unfold rdBody; simp only [T0, T2, T3, T4, T5, T7, T8, if_false, if_true, q1, q2, q3]
    rw [eb]
    simp only [run, Option.map_some, Nat.reduceEqDiff, Nat.reduceAdd, Nat.zero_add, ↓reduceIte, decide_eq_true_eq, decide_true, decide_false, Bool.not_true, Bool.not_false, Bool.true_eq_false, Bool.false_eq_true, List.getElem?_cons_zero, List.getElem?_cons_succ, List.nil_append, List.cons_append, reduceCtorEq, eq_self, decide_eq_false_iff_not, not_true_eq_false, not_false_eq_true, Nat.add_zero, Nat.succ_ne_self, Nat.one_ne_zero, Nat.zero_ne_one, rund, List.contains_cons, List.contains_nil, Nat.reduceBEq, Bool.and_true, Bool.true_and, Bool.and_false, Bool.false_and, Bool.or_false, Bool.or_true, Bool.false_or, Bool.true_or, true_or, or_true, true_and, and_true, beq_self_eq_true, L7, T0, T2, T3, T4, T5, T7, T8]
    refine use (rrnum' (by omega) hn20 r7 q1) ?_
    rintro _ h8 ⟨rfl, n8, x8, r8⟩
    have gB8 := blk x8 gB7 (by omega) (show ¬ h5.next = p by omega)
    have gR8 := blk x8 gR7 (by omega) (show ¬ h.next = p by omega)
    have xb8 := xb7.then x8 (by omega) (fun m hm (e : m = p) => by omega)
    simp only [run, Option.map_some, Nat.reduceEqDiff, Nat.reduceAdd, Nat.zero_add, ↓reduceIte, decide_eq_true_eq, decide_true, decide_false, Bool.not_true, Bool.not_false, Bool.true_eq_false, Bool.false_eq_true, List.getElem?_cons_zero, List.getElem?_cons_succ, List.nil_append, List.cons_append, reduceCtorEq, eq_self, decide_eq_false_iff_not, not_true_eq_false, not_false_eq_true, Nat.add_zero, Nat.succ_ne_self, Nat.one_ne_zero, Nat.zero_ne_one, rund, List.contains_cons, List.contains_nil, Nat.reduceBEq, Bool.and_true, Bool.true_and, Bool.and_false, Bool.false_and, Bool.or_false, Bool.or_true, Bool.false_or, Bool.true_or, true_or, or_true, true_and, and_true, beq_self_eq_true]
    refine use (rrnum' (by omega) hn20 r8 q2) ?_
    rintro _ h9 ⟨rfl, n9, x9, r9⟩
    have gB9 := blk x9 gB8 (by omega) (show ¬ h5.next = p by omega)
    have gR9 := blk x9 gR8 (by omega) (show ¬ h.next = p by omega)
    have xb9 := xb8.then x9 (by omega) (fun m hm (e : m = p) => by omega)
    simp only [run, Option.map_some, Nat.reduceEqDiff, Nat.reduceAdd, Nat.zero_add, ↓reduceIte, decide_eq_true_eq, decide_true, decide_false, Bool.not_true, Bool.not_false, Bool.true_eq_false, Bool.false_eq_true, List.getElem?_cons_zero, List.getElem?_cons_succ, List.nil_append, List.cons_append, reduceCtorEq, eq_self, decide_eq_false_iff_not, not_true_eq_false, not_false_eq_true, Nat.add_zero, Nat.succ_ne_self, Nat.one_ne_zero, Nat.zero_ne_one, rund, List.contains_cons, List.contains_nil, Nat.reduceBEq, Bool.and_true, Bool.true_and, Bool.and_false, Bool.false_and, Bool.or_false, Bool.or_true, Bool.false_or, Bool.true_or, true_or, or_true, true_and, and_true, beq_self_eq_true]
    obtain ⟨h10, eh10, n10, x10, gB10⟩ := stoC (o := 9) (v := .int .i64 b1) gB9 rfl (by simp)
    simp only [List.set_cons_zero, List.set_cons_succ] at gB10
    have r10 := r9.ext x10 (by omega) (fun m hm (e : m = h5.next) => by omega)
    have gR10 := blk x10 gR9 (by omega) (show ¬ h.next = h5.next by omega)
    have xb10 := xb9.then x10 (by omega) (fun m hm (e : m = h5.next) => by omega)
    simp only [run, Option.map_some, Nat.reduceEqDiff, Nat.reduceAdd, Nat.zero_add, ↓reduceIte, decide_eq_true_eq, decide_true, decide_false, Bool.not_true, Bool.not_false, Bool.true_eq_false, Bool.false_eq_true, List.getElem?_cons_zero, List.getElem?_cons_succ, List.nil_append, List.cons_append, reduceCtorEq, eq_self, decide_eq_false_iff_not, not_true_eq_false, not_false_eq_true, Nat.add_zero, Nat.succ_ne_self, Nat.one_ne_zero, Nat.zero_ne_one, rund, List.contains_cons, List.contains_nil, Nat.reduceBEq, Bool.and_true, Bool.true_and, Bool.and_false, Bool.false_and, Bool.or_false, Bool.or_true, Bool.false_or, Bool.true_or, true_or, or_true, true_and, and_true, beq_self_eq_true, eh10]
    obtain ⟨h11, eh11, n11, x11, gB11⟩ := stoC (o := 10) (v := .int .i64 b2) gB10 rfl (by simp)
    simp only [List.set_cons_zero, List.set_cons_succ] at gB11
    have r11 := r10.ext x11 (by omega) (fun m hm (e : m = h5.next) => by omega)
    have gR11 := blk x11 gR10 (by omega) (show ¬ h.next = h5.next by omega)
    have xb11 := xb10.then x11 (by omega) (fun m hm (e : m = h5.next) => by omega)
    simp only [run, Option.map_some, Nat.reduceEqDiff, Nat.reduceAdd, Nat.zero_add, ↓reduceIte, decide_eq_true_eq, decide_true, decide_false, Bool.not_true, Bool.not_false, Bool.true_eq_false, Bool.false_eq_true, List.getElem?_cons_zero, List.getElem?_cons_succ, List.nil_append, List.cons_append, reduceCtorEq, eq_self, decide_eq_false_iff_not, not_true_eq_false, not_false_eq_true, Nat.add_zero, Nat.succ_ne_self, Nat.one_ne_zero, Nat.zero_ne_one, rund, List.contains_cons, List.contains_nil, Nat.reduceBEq, Bool.and_true, Bool.true_and, Bool.and_false, Bool.false_and, Bool.or_false, Bool.or_true, Bool.false_or, Bool.true_or, true_or, or_true, true_and, and_true, beq_self_eq_true, eh11]
    refine use (rrbytes' (by omega) hn20 r11 q3) ?_
    rintro y3 h12 ⟨o12, x12, r12⟩
    have n12 := x12.next
    have gB12 := blk x12 gB11 (by omega) (show ¬ h5.next = p by omega)
    have gR12 := blk x12 gR11 (by omega) (show ¬ h.next = p by omega)
    have xb12 := xb11.then x12 (by omega) (fun m hm (e : m = p) => by omega)
    simp only [run, Option.map_some, Nat.reduceEqDiff, Nat.reduceAdd, Nat.zero_add, ↓reduceIte, decide_eq_true_eq, decide_true, decide_false, Bool.not_true, Bool.not_false, Bool.true_eq_false, Bool.false_eq_true, List.getElem?_cons_zero, List.getElem?_cons_succ, List.nil_append, List.cons_append, reduceCtorEq, eq_self, decide_eq_false_iff_not, not_true_eq_false, not_false_eq_true, Nat.add_zero, Nat.succ_ne_self, Nat.one_ne_zero, Nat.zero_ne_one, rund, List.contains_cons, List.contains_nil, Nat.reduceBEq, Bool.and_true, Bool.true_and, Bool.and_false, Bool.false_and, Bool.or_false, Bool.or_true, Bool.false_or, Bool.true_or, true_or, or_true, true_and, and_true, beq_self_eq_true]
    obtain ⟨h13, eh13, n13, x13, gB13⟩ := stoC (o := 11) (v := y3) gB12 o12.sl.cell (by simp)
    simp only [List.set_cons_zero, List.set_cons_succ] at gB13
    have r13 := r12.ext x13 (by omega) (fun m hm (e : m = h5.next) => by omega)
    have gR13 := blk x13 gR12 (by omega) (show ¬ h.next = h5.next by omega)
    have xb13 := xb12.then x13 (by omega) (fun m hm (e : m = h5.next) => by omega)
    have o12_13 := o12.ext x13 (Nat.le_refl _) (fun m h1 h2 (e : m = h5.next) => by omega)
    simp only [run, Option.map_some, Nat.reduceEqDiff, Nat.reduceAdd, Nat.zero_add, ↓reduceIte, decide_eq_true_eq, decide_true, decide_false, Bool.not_true, Bool.not_false, Bool.true_eq_false, Bool.false_eq_true, List.getElem?_cons_zero, List.getElem?_cons_succ, List.nil_append, List.cons_append, reduceCtorEq, eq_self, decide_eq_false_iff_not, not_true_eq_false, not_false_eq_true, Nat.add_zero, Nat.succ_ne_self, Nat.one_ne_zero, Nat.zero_ne_one, rund, List.contains_cons, List.contains_nil, Nat.reduceBEq, Bool.and_true, Bool.true_and, Bool.and_false, Bool.false_and, Bool.or_false, Bool.or_true, Bool.false_or, Bool.true_or, true_or, or_true, true_and, and_true, beq_self_eq_true, eh13]
    have rep : RepM h0.next h13.next h13 [.int .i64 k, .int .i64 a2, .int .i64 a3, .int .i64 a4, .int .i64 0, .int .i64 0, .bool false, .int .i64 0, .int .i64 0, .int .i64 b1, .int .i64 b2, y3, .int .i64 0, .int .i64 0, .slice none 0 0, .slice none 0 0, .int .i64 0, .int .i64 0, .int .i64 0, .int .i64 0, .int .i64 0, .slice none 0 0, .slice none 0 0, .slice none 0 0] { ({ zeroM with kind := k, src := a2, dst := a3, view := a4 } : Msg) with place := b1, total := b2, data := b3 } :=
      ⟨_, _, _, _, _, _, rfl, (o12_13.sl.more (by omega) (Nat.le_refl _)), Sl.nil, Sl.nil, Sl.nil, Sl.nil, Sl.nil⟩
    have L := fun i => ld_cell (o := i) gB13 (by decide)
    simp only [run, Option.map_some, Nat.reduceEqDiff, Nat.reduceAdd, Nat.zero_add, ↓reduceIte, decide_eq_true_eq, decide_true, decide_false, Bool.not_true, Bool.not_false, Bool.true_eq_false, Bool.false_eq_true, List.getElem?_cons_zero, List.getElem?_cons_succ, List.nil_append, List.cons_append, reduceCtorEq, eq_self, decide_eq_false_iff_not, not_true_eq_false, not_false_eq_true, Nat.add_zero, Nat.succ_ne_self, Nat.one_ne_zero, Nat.zero_ne_one, rund, List.contains_cons, List.contains_nil, Nat.reduceBEq, Bool.and_true, Bool.true_and, Bool.and_false, Bool.false_and, Bool.or_false, Bool.or_true, Bool.false_or, Bool.true_or, true_or, or_true, true_and, and_true, beq_self_eq_true, L, T0]
    refine useE (rrend_spec (by omega) r13) ?_
    by_cases hz : u3 = some []
    · obtain ⟨g', f1, f3, f6, f7⟩ := fin h13 _ { ({ zeroM with kind := k, src := a2, dst := a3, view := a4 } : Msg) with place := b1, total := b2, data := b3 } gR13 rep xb13
      have f2 := ld_whole (k := 24) gB13 (by decide) rfl
      simp only [run, Option.map_some, Nat.reduceEqDiff, Nat.reduceAdd, Nat.zero_add, ↓reduceIte, decide_eq_true_eq, decide_true, decide_false, Bool.not_true, Bool.not_false, Bool.true_eq_false, Bool.false_eq_true, List.getElem?_cons_zero, List.getElem?_cons_succ, List.nil_append, List.cons_append, reduceCtorEq, eq_self, decide_eq_false_iff_not, not_true_eq_false, not_false_eq_true, Nat.add_zero, Nat.succ_ne_self, Nat.one_ne_zero, Nat.zero_ne_one, rund, List.contains_cons, List.contains_nil, Nat.reduceBEq, Bool.and_true, Bool.true_and, Bool.and_false, Bool.false_and, Bool.or_false, Bool.or_true, Bool.false_or, Bool.true_or, true_or, or_true, true_and, and_true, beq_self_eq_true, hz, f2]
      refine use1 f1 ?_
      simp only [run, Option.map_some, Nat.reduceEqDiff, Nat.reduceAdd, Nat.zero_add, ↓reduceIte, decide_eq_true_eq, decide_true, decide_false, Bool.not_true, Bool.not_false, Bool.true_eq_false, Bool.false_eq_true, List.getElem?_cons_zero, List.getElem?_cons_succ, List.nil_append, List.cons_append, reduceCtorEq, eq_self, decide_eq_false_iff_not, not_true_eq_false, not_false_eq_true, Nat.add_zero, Nat.succ_ne_self, Nat.one_ne_zero, Nat.zero_ne_one, rund, List.contains_cons, List.contains_nil, Nat.reduceBEq, Bool.and_true, Bool.true_and, Bool.and_false, Bool.false_and, Bool.or_false, Bool.or_true, Bool.false_or, Bool.true_or, true_or, or_true, true_and, and_true, beq_self_eq_true, f3, hz, if_neg kz]
      exact ⟨f6, _, rfl, f7⟩
    · simp only [run, Option.map_some, Nat.reduceEqDiff, Nat.reduceAdd, Nat.zero_add, ↓reduceIte, decide_eq_true_eq, decide_true, decide_false, Bool.not_true, Bool.not_false, Bool.true_eq_false, Bool.false_eq_true, List.getElem?_cons_zero, List.getElem?_cons_succ, List.nil_append, List.cons_append, reduceCtorEq, eq_self, decide_eq_false_iff_not, not_true_eq_false, not_false_eq_true, Nat.add_zero, Nat.succ_ne_self, Nat.one_ne_zero, Nat.zero_ne_one, rund, List.contains_cons, List.contains_nil, Nat.reduceBEq, Bool.and_true, Bool.true_and, Bool.and_false, Bool.false_and, Bool.or_false, Bool.or_true, Bool.false_or, Bool.true_or, true_or, or_true, true_and, and_true, beq_self_eq_true, hz]
      refine use1 (v := [.int .i64 0, .int .i64 0, .int .i64 0, .int .i64 0, .int .i64 0, .int .i64 0, .bool false, .int .i64 0, .int .i64 0, .int .i64 0, .int .i64 0, .slice none 0 0, .int .i64 0, .int .i64 0, .slice none 0 0, .slice none 0 0, .int .i64 0, .int .i64 0, .int .i64 0, .int .i64 0, .int .i64 0, .slice none 0 0, .slice none 0 0, .slice none 0 0]) rfl ?_
      (try simp only [run, Option.map_some, Nat.reduceEqDiff, Nat.reduceAdd, Nat.zero_add, ↓reduceIte, decide_eq_true_eq, decide_true, decide_false, Bool.not_true, Bool.not_false, Bool.true_eq_false, Bool.false_eq_true, List.getElem?_cons_zero, List.getElem?_cons_succ, List.nil_append, List.cons_append, reduceCtorEq, eq_self, decide_eq_false_iff_not, not_true_eq_false, not_false_eq_true, Nat.add_zero, Nat.succ_ne_self, Nat.one_ne_zero, Nat.zero_ne_one])
      obtain ⟨g', f1, f2, f3, f4⟩ := stoW (k := 24) (vs := [.int .i64 0, .int .i64 0, .int .i64 0, .int .i64 0, .int .i64 0, .int .i64 0, .bool false, .int .i64 0, .int .i64 0, .int .i64 0, .int .i64 0, .slice none 0 0, .int .i64 0, .int .i64 0, .slice none 0 0, .slice none 0 0, .int .i64 0, .int .i64 0, .int .i64 0, .int .i64 0, .int .i64 0, .slice none 0 0, .slice none 0 0, .slice none 0 0]) gR13 rfl rfl rfl (by simp)
      refine use1 f1 ?_
      simp only [run, Option.map_some, Nat.reduceEqDiff, Nat.reduceAdd, Nat.zero_add, ↓reduceIte, decide_eq_true_eq, decide_true, decide_false, Bool.not_true, Bool.not_false, Bool.true_eq_false, Bool.false_eq_true, List.getElem?_cons_zero, List.getElem?_cons_succ, List.nil_append, List.cons_append, reduceCtorEq, eq_self, decide_eq_false_iff_not, not_true_eq_false, not_false_eq_true, Nat.add_zero, Nat.succ_ne_self, Nat.one_ne_zero, Nat.zero_ne_one, rund, List.contains_cons, List.contains_nil, Nat.reduceBEq, Bool.and_true, Bool.true_and, Bool.and_false, Bool.false_and, Bool.or_false, Bool.or_true, Bool.false_or, Bool.true_or, true_or, or_true, true_and, and_true, beq_self_eq_true, ld_whole (k := 24) f4 (by decide) rfl, hz, if_neg kz]
      exact ⟨xb13.then f3 xb13.next (fun m hm (e : m = h.next) => by omega), _, rfl, _, _, _, _, _, _, rfl, Sl.nil, Sl.nil, Sl.nil, Sl.nil, Sl.nil, Sl.nil⟩
  by_cases k7 : k = 7
  · have kz : ¬ (k : Int) = 0 := by omega
    have T0 : ((k : Int) = 0) = False := eq_false (by omega)
    have T2 : ((k : Int) = 2) = False := eq_false (by omega)
    have T3 : ((k : Int) = 3) = False := eq_false (by omega)
    have T4 : ((k : Int) = 4) = False := eq_false (by omega)
    have T5 : ((k : Int) = 5) = False := eq_false (by omega)
    have T7 : ((k : Int) = 7) = True := eq_true (by omega)
    have T8 : ((k : Int) = 8) = False := eq_false (by omega)
    rcases q1 : rdNum 1099511627776 s4 with ⟨b1, u1⟩
    rcases q2 : rdNum 1099511627776 u1 with ⟨b2, u2⟩
    rcases q3 : rdRow 7 u2 with ⟨b3, u3⟩
    rcases q4 : rdRow 8 u3 with ⟨b4, u4⟩
    have eb : rdBody { zeroM with kind := k, src := a2, dst := a3, view := a4 } s4 = ({ ({ zeroM with kind := k, src := a2, dst := a3, view := a4 } : Msg) with hop := b1, seq := b2, have_ := b3, need := b4 }, u4) := by
      unfold rdBody; simp only [T0, T2, T3, T4, T5, T7, T8, if_false, if_true, q1, q2, q3, q4]
    rw [eb]
    simp only [run, Option.map_some, Nat.reduceEqDiff, Nat.reduceAdd, Nat.zero_add, ↓reduceIte, decide_eq_true_eq, decide_true, decide_false, Bool.not_true, Bool.not_false, Bool.true_eq_false, Bool.false_eq_true, List.getElem?_cons_zero, List.getElem?_cons_succ, List.nil_append, List.cons_append, reduceCtorEq, eq_self, decide_eq_false_iff_not, not_true_eq_false, not_false_eq_true, Nat.add_zero, Nat.succ_ne_self, Nat.one_ne_zero, Nat.zero_ne_one, rund, List.contains_cons, List.contains_nil, Nat.reduceBEq, Bool.and_true, Bool.true_and, Bool.and_false, Bool.false_and, Bool.or_false, Bool.or_true, Bool.false_or, Bool.true_or, true_or, or_true, true_and, and_true, beq_self_eq_true, L7, T0, T2, T3, T4, T5, T7, T8]
    refine use (rrnum' (by omega) hn20 r7 q1) ?_
    rintro _ h8 ⟨rfl, n8, x8, r8⟩
    have gB8 := blk x8 gB7 (by omega) (show ¬ h5.next = p by omega)
    have gR8 := blk x8 gR7 (by omega) (show ¬ h.next = p by omega)
    have xb8 := xb7.then x8 (by omega) (fun m hm (e : m = p) => by omega)
    simp only [run, Option.map_some, Nat.reduceEqDiff, Nat.reduceAdd, Nat.zero_add, ↓reduceIte, decide_eq_true_eq, decide_true, decide_false, Bool.not_true, Bool.not_false, Bool.true_eq_false, Bool.false_eq_true, List.getElem?_cons_zero, List.getElem?_cons_succ, List.nil_append, List.cons_append, reduceCtorEq, eq_self, decide_eq_false_iff_not, not_true_eq_false, not_false_eq_true, Nat.add_zero, Nat.succ_ne_self, Nat.one_ne_zero, Nat.zero_ne_one, rund, List.contains_cons, List.contains_nil, Nat.reduceBEq, Bool.and_true, Bool.true_and, Bool.and_false, Bool.false_and, Bool.or_false, Bool.or_true, Bool.false_or, Bool.true_or, true_or, or_true, true_and, and_true, beq_self_eq_true]
    refine use (rrnum' (by omega) hn20 r8 q2) ?_
    rintro _ h9 ⟨rfl, n9, x9, r9⟩
    have gB9 := blk x9 gB8 (by omega) (show ¬ h5.next = p by omega)
    have gR9 := blk x9 gR8 (by omega) (show ¬ h.next = p by omega)
    have xb9 := xb8.then x9 (by omega) (fun m hm (e : m = p) => by omega)
    simp only [run, Option.map_some, Nat.reduceEqDiff, Nat.reduceAdd, Nat.zero_add, ↓reduceIte, decide_eq_true_eq, decide_true, decide_false, Bool.not_true, Bool.not_false, Bool.true_eq_false, Bool.false_eq_true, List.getElem?_cons_zero, List.getElem?_cons_succ, List.nil_append, List.cons_append, reduceCtorEq, eq_self, decide_eq_false_iff_not, not_true_eq_false, not_false_eq_true, Nat.add_zero, Nat.succ_ne_self, Nat.one_ne_zero, Nat.zero_ne_one, rund, List.contains_cons, List.contains_nil, Nat.reduceBEq, Bool.and_true, Bool.true_and, Bool.and_false, Bool.false_and, Bool.or_false, Bool.or_true, Bool.false_or, Bool.true_or, true_or, or_true, true_and, and_true, beq_self_eq_true]
    obtain ⟨h10, eh10, n10, x10, gB10⟩ := stoC (o := 12) (v := .int .i64 b1) gB9 rfl (by simp)
    simp only [List.set_cons_zero, List.set_cons_succ] at gB10
    have r10 := r9.ext x10 (by omega) (fun m hm (e : m = h5.next) => by omega)
    have gR10 := blk x10 gR9 (by omega) (show ¬ h.next = h5.next by omega)
    have xb10 := xb9.then x10 (by omega) (fun m hm (e : m = h5.next) => by omega)
    simp only [run, Option.map_some, Nat.reduceEqDiff, Nat.reduceAdd, Nat.zero_add, ↓reduceIte, decide_eq_true_eq, decide_true, decide_false, Bool.not_true, Bool.not_false, Bool.true_eq_false, Bool.false_eq_true, List.getElem?_cons_zero, List.getElem?_cons_succ, List.nil_append, List.cons_append, reduceCtorEq, eq_self, decide_eq_false_iff_not, not_true_eq_false, not_false_eq_true, Nat.add_zero, Nat.succ_ne_self, Nat.one_ne_zero, Nat.zero_ne_one, rund, List.contains_cons, List.contains_nil, Nat.reduceBEq, Bool.and_true, Bool.true_and, Bool.and_false, Bool.false_and, Bool.or_false, Bool.or_true, Bool.false_or, Bool.true_or, true_or, or_true, true_and, and_true, beq_self_eq_true, eh10]
    obtain ⟨h11, eh11, n11, x11, gB11⟩ := stoC (o := 13) (v := .int .i64 b2) gB10 rfl (by simp)
    simp only [List.set_cons_zero, List.set_cons_succ] at gB11
    have r11 := r10.ext x11 (by omega) (fun m hm (e : m = h5.next) => by omega)
    have gR11 := blk x11 gR10 (by omega) (show ¬ h.next = h5.next by omega)
    have xb11 := xb10.then x11 (by omega) (fun m hm (e : m = h5.next) => by omega)
    simp only [run, Option.map_some, Nat.reduceEqDiff, Nat.reduceAdd, Nat.zero_add, ↓reduceIte, decide_eq_true_eq, decide_true, decide_false, Bool.not_true, Bool.not_false, Bool.true_eq_false, Bool.false_eq_true, List.getElem?_cons_zero, List.getElem?_cons_succ, List.nil_append, List.cons_append, reduceCtorEq, eq_self, decide_eq_false_iff_not, not_true_eq_false, not_false_eq_true, Nat.add_zero, Nat.succ_ne_self, Nat.one_ne_zero, Nat.zero_ne_one, rund, List.contains_cons, List.contains_nil, Nat.reduceBEq, Bool.and_true, Bool.true_and, Bool.and_false, Bool.false_and, Bool.or_false, Bool.or_true, Bool.false_or, Bool.true_or, true_or, or_true, true_and, and_true, beq_self_eq_true, eh11]
    refine use (rrow_spec (by omega) hn (by decide) r11 q3) ?_
    rintro y3 h12 ⟨o12, x12, r12⟩
    have n12 := x12.next
    have gB12 := blk x12 gB11 (by omega) (show ¬ h5.next = p by omega)
    have gR12 := blk x12 gR11 (by omega) (show ¬ h.next = p by omega)
    have xb12 := xb11.then x12 (by omega) (fun m hm (e : m = p) => by omega)
    simp only [run, Option.map_some, Nat.reduceEqDiff, Nat.reduceAdd, Nat.zero_add, ↓reduceIte, decide_eq_true_eq, decide_true, decide_false, Bool.not_true, Bool.not_false, Bool.true_eq_false, Bool.false_eq_true, List.getElem?_cons_zero, List.getElem?_cons_succ, List.nil_append, List.cons_append, reduceCtorEq, eq_self, decide_eq_false_iff_not, not_true_eq_false, not_false_eq_true, Nat.add_zero, Nat.succ_ne_self, Nat.one_ne_zero, Nat.zero_ne_one, rund, List.contains_cons, List.contains_nil, Nat.reduceBEq, Bool.and_true, Bool.true_and, Bool.and_false, Bool.false_and, Bool.or_false, Bool.or_true, Bool.false_or, Bool.true_or, true_or, or_true, true_and, and_true, beq_self_eq_true]
    obtain ⟨h13, eh13, n13, x13, gB13⟩ := stoC (o := 14) (v := y3) gB12 o12.sl.cell (by simp)
    simp only [List.set_cons_zero, List.set_cons_succ] at gB13
    have r13 := r12.ext x13 (by omega) (fun m hm (e : m = h5.next) => by omega)
    have gR13 := blk x13 gR12 (by omega) (show ¬ h.next = h5.next by omega)
    have xb13 := xb12.then x13 (by omega) (fun m hm (e : m = h5.next) => by omega)
    have o12_13 := o12.ext x13 (Nat.le_refl _) (fun m h1 h2 (e : m = h5.next) => by omega)
    simp only [run, Option.map_some, Nat.reduceEqDiff, Nat.reduceAdd, Nat.zero_add, ↓reduceIte, decide_eq_true_eq, decide_true, decide_false, Bool.not_true, Bool.not_false, Bool.true_eq_false, Bool.false_eq_true, List.getElem?_cons_zero, List.getElem?_cons_succ, List.nil_append, List.cons_append, reduceCtorEq, eq_self, decide_eq_false_iff_not, not_true_eq_false, not_false_eq_true, Nat.add_zero, Nat.succ_ne_self, Nat.one_ne_zero, Nat.zero_ne_one, rund, List.contains_cons, List.contains_nil, Nat.reduceBEq, Bool.and_true, Bool.true_and, Bool.and_false, Bool.false_and, Bool.or_false, Bool.or_true, Bool.false_or, Bool.true_or, true_or, or_true, true_and, and_true, beq_self_eq_true, eh13]
    refine use (rrow_spec (by omega) hn (by decide) r13 q4) ?_
    rintro y4 h14 ⟨o14, x14, r14⟩
    have n14 := x14.next
    have gB14 := blk x14 gB13 (by omega) (show ¬ h5.next = p by omega)
    have gR14 := blk x14 gR13 (by omega) (show ¬ h.next = p by omega)
    have xb14 := xb13.then x14 (by omega) (fun m hm (e : m = p) => by omega)
    have o12_13_14 := o12_13.ext x14 (Nat.le_refl _) (fun m h1 h2 (e : m = p) => by omega)
    simp only [run, Option.map_some, Nat.reduceEqDiff, Nat.reduceAdd, Nat.zero_add, ↓reduceIte, decide_eq_true_eq, decide_true, decide_false, Bool.not_true, Bool.not_false, Bool.true_eq_false, Bool.false_eq_true, List.getElem?_cons_zero, List.getElem?_cons_succ, List.nil_append, List.cons_append, reduceCtorEq, eq_self, decide_eq_false_iff_not, not_true_eq_false, not_false_eq_true, Nat.add_zero, Nat.succ_ne_self, Nat.one_ne_zero, Nat.zero_ne_one, rund, List.contains_cons, List.contains_nil, Nat.reduceBEq, Bool.and_true, Bool.true_and, Bool.and_false, Bool.false_and, Bool.or_false, Bool.or_true, Bool.false_or, Bool.true_or, true_or, or_true, true_and, and_true, beq_self_eq_true]
    obtain ⟨h15, eh15, n15, x15, gB15⟩ := stoC (o := 15) (v := y4) gB14 o14.sl.cell (by simp)
    simp only [List.set_cons_zero, List.set_cons_succ] at gB15
    have r15 := r14.ext x15 (by omega) (fun m hm (e : m = h5.next) => by omega)
    have gR15 := blk x15 gR14 (by omega) (show ¬ h.next = h5.next by omega)
    have xb15 := xb14.then x15 (by omega) (fun m hm (e : m = h5.next) => by omega)
    have o12_13_14_15 := o12_13_14.ext x15 (Nat.le_refl _) (fun m h1 h2 (e : m = h5.next) => by omega)
    have o14_15 := o14.ext x15 (Nat.le_refl _) (fun m h1 h2 (e : m = h5.next) => by omega)
    simp only [run, Option.map_some, Nat.reduceEqDiff, Nat.reduceAdd, Nat.zero_add, ↓reduceIte, decide_eq_true_eq, decide_true, decide_false, Bool.not_true, Bool.not_false, Bool.true_eq_false, Bool.false_eq_true, List.getElem?_cons_zero, List.getElem?_cons_succ, List.nil_append, List.cons_append, reduceCtorEq, eq_self, decide_eq_false_iff_not, not_true_eq_false, not_false_eq_true, Nat.add_zero, Nat.succ_ne_self, Nat.one_ne_zero, Nat.zero_ne_one, rund, List.contains_cons, List.contains_nil, Nat.reduceBEq, Bool.and_true, Bool.true_and, Bool.and_false, Bool.false_and, Bool.or_false, Bool.or_true, Bool.false_or, Bool.true_or, true_or, or_true, true_and, and_true, beq_self_eq_true, eh15]
    have rep : RepM h0.next h15.next h15 [.int .i64 k, .int .i64 a2, .int .i64 a3, .int .i64 a4, .int .i64 0, .int .i64 0, .bool false, .int .i64 0, .int .i64 0, .int .i64 0, .int .i64 0, .slice none 0 0, .int .i64 b1, .int .i64 b2, y3, y4, .int .i64 0, .int .i64 0, .int .i64 0, .int .i64 0, .int .i64 0, .slice none 0 0, .slice none 0 0, .slice none 0 0] { ({ zeroM with kind := k, src := a2, dst := a3, view := a4 } : Msg) with hop := b1, seq := b2, have_ := b3, need := b4 } :=
      ⟨_, _, _, _, _, _, rfl, Sl.nil, (o12_13_14_15.sl.more (by omega) (Nat.le_refl _)), (o14_15.sl.more (by omega) (Nat.le_refl _)), Sl.nil, Sl.nil, Sl.nil⟩
    have L := fun i => ld_cell (o := i) gB15 (by decide)
    simp only [run, Option.map_some, Nat.reduceEqDiff, Nat.reduceAdd, Nat.zero_add, ↓reduceIte, decide_eq_true_eq, decide_true, decide_false, Bool.not_true, Bool.not_false, Bool.true_eq_false, Bool.false_eq_true, List.getElem?_cons_zero, List.getElem?_cons_succ, List.nil_append, List.cons_append, reduceCtorEq, eq_self, decide_eq_false_iff_not, not_true_eq_false, not_false_eq_true, Nat.add_zero, Nat.succ_ne_self, Nat.one_ne_zero, Nat.zero_ne_one, rund, List.contains_cons, List.contains_nil, Nat.reduceBEq, Bool.and_true, Bool.true_and, Bool.and_false, Bool.false_and, Bool.or_false, Bool.or_true, Bool.false_or, Bool.true_or, true_or, or_true, true_and, and_true, beq_self_eq_true, L, T0]
    refine useE (rrend_spec (by omega) r15) ?_
    by_cases hz : u4 = some []
    · obtain ⟨g', f1, f3, f6, f7⟩ := fin h15 _ { ({ zeroM with kind := k, src := a2, dst := a3, view := a4 } : Msg) with hop := b1, seq := b2, have_ := b3, need := b4 } gR15 rep xb15
      have f2 := ld_whole (k := 24) gB15 (by decide) rfl
      simp only [run, Option.map_some, Nat.reduceEqDiff, Nat.reduceAdd, Nat.zero_add, ↓reduceIte, decide_eq_true_eq, decide_true, decide_false, Bool.not_true, Bool.not_false, Bool.true_eq_false, Bool.false_eq_true, List.getElem?_cons_zero, List.getElem?_cons_succ, List.nil_append, List.cons_append, reduceCtorEq, eq_self, decide_eq_false_iff_not, not_true_eq_false, not_false_eq_true, Nat.add_zero, Nat.succ_ne_self, Nat.one_ne_zero, Nat.zero_ne_one, rund, List.contains_cons, List.contains_nil, Nat.reduceBEq, Bool.and_true, Bool.true_and, Bool.and_false, Bool.false_and, Bool.or_false, Bool.or_true, Bool.false_or, Bool.true_or, true_or, or_true, true_and, and_true, beq_self_eq_true, hz, f2]
      refine use1 f1 ?_
      simp only [run, Option.map_some, Nat.reduceEqDiff, Nat.reduceAdd, Nat.zero_add, ↓reduceIte, decide_eq_true_eq, decide_true, decide_false, Bool.not_true, Bool.not_false, Bool.true_eq_false, Bool.false_eq_true, List.getElem?_cons_zero, List.getElem?_cons_succ, List.nil_append, List.cons_append, reduceCtorEq, eq_self, decide_eq_false_iff_not, not_true_eq_false, not_false_eq_true, Nat.add_zero, Nat.succ_ne_self, Nat.one_ne_zero, Nat.zero_ne_one, rund, List.contains_cons, List.contains_nil, Nat.reduceBEq, Bool.and_true, Bool.true_and, Bool.and_false, Bool.false_and, Bool.or_false, Bool.or_true, Bool.false_or, Bool.true_or, true_or, or_true, true_and, and_true, beq_self_eq_true, f3, hz, if_neg kz]
      exact ⟨f6, _, rfl, f7⟩
    · simp only [run, Option.map_some, Nat.reduceEqDiff, Nat.reduceAdd, Nat.zero_add, ↓reduceIte, decide_eq_true_eq, decide_true, decide_false, Bool.not_true, Bool.not_false, Bool.true_eq_false, Bool.false_eq_true, List.getElem?_cons_zero, List.getElem?_cons_succ, List.nil_append, List.cons_append, reduceCtorEq, eq_self, decide_eq_false_iff_not, not_true_eq_false, not_false_eq_true, Nat.add_zero, Nat.succ_ne_self, Nat.one_ne_zero, Nat.zero_ne_one, rund, List.contains_cons, List.contains_nil, Nat.reduceBEq, Bool.and_true, Bool.true_and, Bool.and_false, Bool.false_and, Bool.or_false, Bool.or_true, Bool.false_or, Bool.true_or, true_or, or_true, true_and, and_true, beq_self_eq_true, hz]
      refine use1 (v := [.int .i64 0, .int .i64 0, .int .i64 0, .int .i64 0, .int .i64 0, .int .i64 0, .bool false, .int .i64 0, .int .i64 0, .int .i64 0, .int .i64 0, .slice none 0 0, .int .i64 0, .int .i64 0, .slice none 0 0, .slice none 0 0, .int .i64 0, .int .i64 0, .int .i64 0, .int .i64 0, .int .i64 0, .slice none 0 0, .slice none 0 0, .slice none 0 0]) rfl ?_
      (try simp only [run, Option.map_some, Nat.reduceEqDiff, Nat.reduceAdd, Nat.zero_add, ↓reduceIte, decide_eq_true_eq, decide_true, decide_false, Bool.not_true, Bool.not_false, Bool.true_eq_false, Bool.false_eq_true, List.getElem?_cons_zero, List.getElem?_cons_succ, List.nil_append, List.cons_append, reduceCtorEq, eq_self, decide_eq_false_iff_not, not_true_eq_false, not_false_eq_true, Nat.add_zero, Nat.succ_ne_self, Nat.one_ne_zero, Nat.zero_ne_one])
      obtain ⟨g', f1, f2, f3, f4⟩ := stoW (k := 24) (vs := [.int .i64 0, .int .i64 0, .int .i64 0, .int .i64 0, .int .i64 0, .int .i64 0, .bool false, .int .i64 0, .int .i64 0, .int .i64 0, .int .i64 0, .slice none 0 0, .int .i64 0, .int .i64 0, .slice none 0 0, .slice none 0 0, .int .i64 0, .int .i64 0, .int .i64 0, .int .i64 0, .int .i64 0, .slice none 0 0, .slice none 0 0, .slice none 0 0]) gR15 rfl rfl rfl (by simp)
      refine use1 f1 ?_
      simp only [run, Option.map_some, Nat.reduceEqDiff, Nat.reduceAdd, Nat.zero_add, ↓reduceIte, decide_eq_true_eq, decide_true, decide_false, Bool.not_true, Bool.not_false, Bool.true_eq_false, Bool.false_eq_true, List.getElem?_cons_zero, List.getElem?_cons_succ, List.nil_append, List.cons_append, reduceCtorEq, eq_self, decide_eq_false_iff_not, not_true_eq_false, not_false_eq_true, Nat.add_zero, Nat.succ_ne_self, Nat.one_ne_zero, Nat.zero_ne_one, rund, List.contains_cons, List.contains_nil, Nat.reduceBEq, Bool.and_true, Bool.true_and, Bool.and_false, Bool.false_and, Bool.or_false, Bool.or_true, Bool.false_or, Bool.true_or, true_or, or_true, true_and, and_true, beq_self_eq_true, ld_whole (k := 24) f4 (by decide) rfl, hz, if_neg kz]
      exact ⟨xb15.then f3 xb15.next (fun m hm (e : m = h.next) => by omega), _, rfl, _, _, _, _, _, _, rfl, Sl.nil, Sl.nil, Sl.nil, Sl.nil, Sl.nil, Sl.nil⟩
  by_cases k8 : k = 8
  · have kz : ¬ (k : Int) = 0 := by omega
    have T0 : ((k : Int) = 0) = False := eq_false (by omega)
    have T2 : ((k : Int) = 2) = False := eq_false (by omega)
    have T3 : ((k : Int) = 3) = False := eq_false (by omega)
    have T4 : ((k : Int) = 4) = False := eq_false (by omega)
    have T5 : ((k : Int) = 5) = False := eq_false (by omega)
    have T7 : ((k : Int) = 7) = False := eq_false (by omega)
    have T8 : ((k : Int) = 8) = True := eq_true (by omega)
    rcases q1 : rdNum 1099511627776 s4 with ⟨b1, u1⟩
    rcases q2 : rdEntry u1 with ⟨b2, u2⟩
    have eb : rdBody { zeroM with kind := k, src := a2, dst := a3, view := a4 } s4 = ({ ({ zeroM with kind := k, src := a2, dst := a3, view := a4 } : Msg) with index := b1, entry := b2 }, u2) := by
      unfold rdBody; simp only [T0, T2, T3, T4, T5, T7, T8, if_false, if_true, q1, q2]
    rw [eb]
    simp only [run, Option.map_some, Nat.reduceEqDiff, Nat.reduceAdd, Nat.zero_add, ↓reduceIte, decide_eq_true_eq, decide_true, decide_false, Bool.not_true, Bool.not_false, Bool.true_eq_false, Bool.false_eq_true, List.getElem?_cons_zero, List.getElem?_cons_succ, List.nil_append, List.cons_append, reduceCtorEq, eq_self, decide_eq_false_iff_not, not_true_eq_false, not_false_eq_true, Nat.add_zero, Nat.succ_ne_self, Nat.one_ne_zero, Nat.zero_ne_one, rund, List.contains_cons, List.contains_nil, Nat.reduceBEq, Bool.and_true, Bool.true_and, Bool.and_false, Bool.false_and, Bool.or_false, Bool.or_true, Bool.false_or, Bool.true_or, true_or, or_true, true_and, and_true, beq_self_eq_true, L7, T0, T2, T3, T4, T5, T7, T8]
    refine use (rrnum' (by omega) hn20 r7 q1) ?_
    rintro _ h8 ⟨rfl, n8, x8, r8⟩
    have gB8 := blk x8 gB7 (by omega) (show ¬ h5.next = p by omega)
    have gR8 := blk x8 gR7 (by omega) (show ¬ h.next = p by omega)
    have xb8 := xb7.then x8 (by omega) (fun m hm (e : m = p) => by omega)
    simp only [run, Option.map_some, Nat.reduceEqDiff, Nat.reduceAdd, Nat.zero_add, ↓reduceIte, decide_eq_true_eq, decide_true, decide_false, Bool.not_true, Bool.not_false, Bool.true_eq_false, Bool.false_eq_true, List.getElem?_cons_zero, List.getElem?_cons_succ, List.nil_append, List.cons_append, reduceCtorEq, eq_self, decide_eq_false_iff_not, not_true_eq_false, not_false_eq_true, Nat.add_zero, Nat.succ_ne_self, Nat.one_ne_zero, Nat.zero_ne_one, rund, List.contains_cons, List.contains_nil, Nat.reduceBEq, Bool.and_true, Bool.true_and, Bool.and_false, Bool.false_and, Bool.or_false, Bool.or_true, Bool.false_or, Bool.true_or, true_or, or_true, true_and, and_true, beq_self_eq_true]
    obtain ⟨h9, eh9, n9, x9, gB9⟩ := stoC (o := 16) (v := .int .i64 b1) gB8 rfl (by simp)
    simp only [List.set_cons_zero, List.set_cons_succ] at gB9
    have r9 := r8.ext x9 (by omega) (fun m hm (e : m = h5.next) => by omega)
    have gR9 := blk x9 gR8 (by omega) (show ¬ h.next = h5.next by omega)
    have xb9 := xb8.then x9 (by omega) (fun m hm (e : m = h5.next) => by omega)
    simp only [run, Option.map_some, Nat.reduceEqDiff, Nat.reduceAdd, Nat.zero_add, ↓reduceIte, decide_eq_true_eq, decide_true, decide_false, Bool.not_true, Bool.not_false, Bool.true_eq_false, Bool.false_eq_true, List.getElem?_cons_zero, List.getElem?_cons_succ, List.nil_append, List.cons_append, reduceCtorEq, eq_self, decide_eq_false_iff_not, not_true_eq_false, not_false_eq_true, Nat.add_zero, Nat.succ_ne_self, Nat.one_ne_zero, Nat.zero_ne_one, rund, List.contains_cons, List.contains_nil, Nat.reduceBEq, Bool.and_true, Bool.true_and, Bool.and_false, Bool.false_and, Bool.or_false, Bool.or_true, Bool.false_or, Bool.true_or, true_or, or_true, true_and, and_true, beq_self_eq_true, eh9]
    have ge := get108_spec (d := d) (n := n) (by omega) hn20 r9
    rw [q2] at ge
    refine use ge ?_
    rintro _ h10 ⟨x10, r10, ce, rfl, re⟩
    have n10 := x10.next
    have gB10 := blk x10 gB9 (by omega) (show ¬ h5.next = p by omega)
    have gR10 := blk x10 gR9 (by omega) (show ¬ h.next = p by omega)
    have xb10 := xb9.then x10 (by omega) (fun m hm (e : m = p) => by omega)
    simp only [run, Option.map_some, Nat.reduceEqDiff, Nat.reduceAdd, Nat.zero_add, ↓reduceIte, decide_eq_true_eq, decide_true, decide_false, Bool.not_true, Bool.not_false, Bool.true_eq_false, Bool.false_eq_true, List.getElem?_cons_zero, List.getElem?_cons_succ, List.nil_append, List.cons_append, reduceCtorEq, eq_self, decide_eq_false_iff_not, not_true_eq_false, not_false_eq_true, Nat.add_zero, Nat.succ_ne_self, Nat.one_ne_zero, Nat.zero_ne_one, rund, List.contains_cons, List.contains_nil, Nat.reduceBEq, Bool.and_true, Bool.true_and, Bool.and_false, Bool.false_and, Bool.or_false, Bool.or_true, Bool.false_or, Bool.true_or, true_or, or_true, true_and, and_true, beq_self_eq_true]
    obtain ⟨ck, cv, co, rfl, rk, rv, ro⟩ := re
    obtain ⟨h11, eh11, n11, x11, gB11⟩ := stoP (o := 17) (k := 7) (vs := [.int .i64 b2.sess, .int .i64 b2.seq, .int .i64 b2.kind, .int .i64 b2.who, ck, cv, co]) gB10 rfl (by simp) (by simp only [List.all_cons, List.all_nil, isCell_int, isCell_bool, isCell_slice, isCell_string, isCell_pointer, Bool.and_true, Bool.true_and, Bool.and_self, rk.cell, rv.cell, ro.cell]) (by simp)
    have gB11' : h11.get h5.next = ⟨[.int .i64 k, .int .i64 a2, .int .i64 a3, .int .i64 a4, .int .i64 0, .int .i64 0, .bool false, .int .i64 0, .int .i64 0, .int .i64 0, .int .i64 0, .slice none 0 0, .int .i64 0, .int .i64 0, .slice none 0 0, .slice none 0 0, .int .i64 b1, .int .i64 b2.sess, .int .i64 b2.seq, .int .i64 b2.kind, .int .i64 b2.who, ck, cv, co], 24, 0, none⟩ := gB11
    have r11 := r10.ext x11 (by omega) (fun m hm (e : m = h5.next) => by omega)
    have gR11 := blk x11 gR10 (by omega) (show ¬ h.next = h5.next by omega)
    have xb11 := xb10.then x11 (by omega) (fun m hm (e : m = h5.next) => by omega)
    have rep : RepM h0.next h11.next h11 [.int .i64 k, .int .i64 a2, .int .i64 a3, .int .i64 a4, .int .i64 0, .int .i64 0, .bool false, .int .i64 0, .int .i64 0, .int .i64 0, .int .i64 0, .slice none 0 0, .int .i64 0, .int .i64 0, .slice none 0 0, .slice none 0 0, .int .i64 b1, .int .i64 b2.sess, .int .i64 b2.seq, .int .i64 b2.kind, .int .i64 b2.who, ck, cv, co] { ({ zeroM with kind := k, src := a2, dst := a3, view := a4 } : Msg) with index := b1, entry := b2 } :=
      ⟨_, _, _, _, _, _, rfl, Sl.nil, Sl.nil, Sl.nil, (rk.ext x11 (by omega) (fun m h1 h2 (e : m = h5.next) => by omega)).more (by omega) (by omega), (rv.ext x11 (by omega) (fun m h1 h2 (e : m = h5.next) => by omega)).more (by omega) (by omega), (ro.ext x11 (by omega) (fun m h1 h2 (e : m = h5.next) => by omega)).more (by omega) (by omega)⟩
    simp only [run, Option.map_some, Nat.reduceEqDiff, Nat.reduceAdd, Nat.zero_add, ↓reduceIte, decide_eq_true_eq, decide_true, decide_false, Bool.not_true, Bool.not_false, Bool.true_eq_false, Bool.false_eq_true, List.getElem?_cons_zero, List.getElem?_cons_succ, List.nil_append, List.cons_append, reduceCtorEq, eq_self, decide_eq_false_iff_not, not_true_eq_false, not_false_eq_true, Nat.add_zero, Nat.succ_ne_self, Nat.one_ne_zero, Nat.zero_ne_one, rund, List.contains_cons, List.contains_nil, Nat.reduceBEq, Bool.and_true, Bool.true_and, Bool.and_false, Bool.false_and, Bool.or_false, Bool.or_true, Bool.false_or, Bool.true_or, true_or, or_true, true_and, and_true, beq_self_eq_true, eh11]
    have L := fun i => ld_cell (o := i) gB11' (by decide)
    simp only [run, Option.map_some, Nat.reduceEqDiff, Nat.reduceAdd, Nat.zero_add, ↓reduceIte, decide_eq_true_eq, decide_true, decide_false, Bool.not_true, Bool.not_false, Bool.true_eq_false, Bool.false_eq_true, List.getElem?_cons_zero, List.getElem?_cons_succ, List.nil_append, List.cons_append, reduceCtorEq, eq_self, decide_eq_false_iff_not, not_true_eq_false, not_false_eq_true, Nat.add_zero, Nat.succ_ne_self, Nat.one_ne_zero, Nat.zero_ne_one, rund, List.contains_cons, List.contains_nil, Nat.reduceBEq, Bool.and_true, Bool.true_and, Bool.and_false, Bool.false_and, Bool.or_false, Bool.or_true, Bool.false_or, Bool.true_or, true_or, or_true, true_and, and_true, beq_self_eq_true, L, T0]
    refine useE (rrend_spec (by omega) r11) ?_
    by_cases hz : u2 = some []
    · obtain ⟨g', f1, f3, f6, f7⟩ := fin h11 _ { ({ zeroM with kind := k, src := a2, dst := a3, view := a4 } : Msg) with index := b1, entry := b2 } gR11 rep xb11
      have f2 := ld_whole (k := 24) gB11' (by decide) rfl
      simp only [run, Option.map_some, Nat.reduceEqDiff, Nat.reduceAdd, Nat.zero_add, ↓reduceIte, decide_eq_true_eq, decide_true, decide_false, Bool.not_true, Bool.not_false, Bool.true_eq_false, Bool.false_eq_true, List.getElem?_cons_zero, List.getElem?_cons_succ, List.nil_append, List.cons_append, reduceCtorEq, eq_self, decide_eq_false_iff_not, not_true_eq_false, not_false_eq_true, Nat.add_zero, Nat.succ_ne_self, Nat.one_ne_zero, Nat.zero_ne_one, rund, List.contains_cons, List.contains_nil, Nat.reduceBEq, Bool.and_true, Bool.true_and, Bool.and_false, Bool.false_and, Bool.or_false, Bool.or_true, Bool.false_or, Bool.true_or, true_or, or_true, true_and, and_true, beq_self_eq_true, hz, f2]
      refine use1 f1 ?_
      simp only [run, Option.map_some, Nat.reduceEqDiff, Nat.reduceAdd, Nat.zero_add, ↓reduceIte, decide_eq_true_eq, decide_true, decide_false, Bool.not_true, Bool.not_false, Bool.true_eq_false, Bool.false_eq_true, List.getElem?_cons_zero, List.getElem?_cons_succ, List.nil_append, List.cons_append, reduceCtorEq, eq_self, decide_eq_false_iff_not, not_true_eq_false, not_false_eq_true, Nat.add_zero, Nat.succ_ne_self, Nat.one_ne_zero, Nat.zero_ne_one, rund, List.contains_cons, List.contains_nil, Nat.reduceBEq, Bool.and_true, Bool.true_and, Bool.and_false, Bool.false_and, Bool.or_false, Bool.or_true, Bool.false_or, Bool.true_or, true_or, or_true, true_and, and_true, beq_self_eq_true, f3, hz, if_neg kz]
      exact ⟨f6, _, rfl, f7⟩
    · simp only [run, Option.map_some, Nat.reduceEqDiff, Nat.reduceAdd, Nat.zero_add, ↓reduceIte, decide_eq_true_eq, decide_true, decide_false, Bool.not_true, Bool.not_false, Bool.true_eq_false, Bool.false_eq_true, List.getElem?_cons_zero, List.getElem?_cons_succ, List.nil_append, List.cons_append, reduceCtorEq, eq_self, decide_eq_false_iff_not, not_true_eq_false, not_false_eq_true, Nat.add_zero, Nat.succ_ne_self, Nat.one_ne_zero, Nat.zero_ne_one, rund, List.contains_cons, List.contains_nil, Nat.reduceBEq, Bool.and_true, Bool.true_and, Bool.and_false, Bool.false_and, Bool.or_false, Bool.or_true, Bool.false_or, Bool.true_or, true_or, or_true, true_and, and_true, beq_self_eq_true, hz]
      refine use1 (v := [.int .i64 0, .int .i64 0, .int .i64 0, .int .i64 0, .int .i64 0, .int .i64 0, .bool false, .int .i64 0, .int .i64 0, .int .i64 0, .int .i64 0, .slice none 0 0, .int .i64 0, .int .i64 0, .slice none 0 0, .slice none 0 0, .int .i64 0, .int .i64 0, .int .i64 0, .int .i64 0, .int .i64 0, .slice none 0 0, .slice none 0 0, .slice none 0 0]) rfl ?_
      (try simp only [run, Option.map_some, Nat.reduceEqDiff, Nat.reduceAdd, Nat.zero_add, ↓reduceIte, decide_eq_true_eq, decide_true, decide_false, Bool.not_true, Bool.not_false, Bool.true_eq_false, Bool.false_eq_true, List.getElem?_cons_zero, List.getElem?_cons_succ, List.nil_append, List.cons_append, reduceCtorEq, eq_self, decide_eq_false_iff_not, not_true_eq_false, not_false_eq_true, Nat.add_zero, Nat.succ_ne_self, Nat.one_ne_zero, Nat.zero_ne_one])
      obtain ⟨g', f1, f2, f3, f4⟩ := stoW (k := 24) (vs := [.int .i64 0, .int .i64 0, .int .i64 0, .int .i64 0, .int .i64 0, .int .i64 0, .bool false, .int .i64 0, .int .i64 0, .int .i64 0, .int .i64 0, .slice none 0 0, .int .i64 0, .int .i64 0, .slice none 0 0, .slice none 0 0, .int .i64 0, .int .i64 0, .int .i64 0, .int .i64 0, .int .i64 0, .slice none 0 0, .slice none 0 0, .slice none 0 0]) gR11 rfl rfl rfl (by simp)
      refine use1 f1 ?_
      simp only [run, Option.map_some, Nat.reduceEqDiff, Nat.reduceAdd, Nat.zero_add, ↓reduceIte, decide_eq_true_eq, decide_true, decide_false, Bool.not_true, Bool.not_false, Bool.true_eq_false, Bool.false_eq_true, List.getElem?_cons_zero, List.getElem?_cons_succ, List.nil_append, List.cons_append, reduceCtorEq, eq_self, decide_eq_false_iff_not, not_true_eq_false, not_false_eq_true, Nat.add_zero, Nat.succ_ne_self, Nat.one_ne_zero, Nat.zero_ne_one, rund, List.contains_cons, List.contains_nil, Nat.reduceBEq, Bool.and_true, Bool.true_and, Bool.and_false, Bool.false_and, Bool.or_false, Bool.or_true, Bool.false_or, Bool.true_or, true_or, or_true, true_and, and_true, beq_self_eq_true, ld_whole (k := 24) f4 (by decide) rfl, hz, if_neg kz]
      exact ⟨xb11.then f3 xb11.next (fun m hm (e : m = h.next) => by omega), _, rfl, _, _, _, _, _, _, rfl, Sl.nil, Sl.nil, Sl.nil, Sl.nil, Sl.nil, Sl.nil⟩
  have eb : rdBody { zeroM with kind := k, src := a2, dst := a3, view := a4 } s4 = ({ zeroM with kind := k, src := a2, dst := a3, view := a4 }, s4) := by
    have T2 : ((k : Int) = 2) = False := eq_false (by omega)
    have T3 : ((k : Int) = 3) = False := eq_false (by omega)
    have T4 : ((k : Int) = 4) = False := eq_false (by omega)
    have T5 : ((k : Int) = 5) = False := eq_false (by omega)
    have T7 : ((k : Int) = 7) = False := eq_false (by omega)
    have T8 : ((k : Int) = 8) = False := eq_false (by omega)
    unfold rdBody; simp only [T2, T3, T4, T5, T7, T8, if_false]
  rw [eb]
  have T2 : ((k : Int) = 2) = False := eq_false (by omega)
  have T3 : ((k : Int) = 3) = False := eq_false (by omega)
  have T4 : ((k : Int) = 4) = False := eq_false (by omega)
  have T5 : ((k : Int) = 5) = False := eq_false (by omega)
  have T7 : ((k : Int) = 7) = False := eq_false (by omega)
  have T8 : ((k : Int) = 8) = False := eq_false (by omega)
  by_cases kz : (k : Int) = 0
  · have T0 : ((k : Int) = 0) = True := eq_true kz
    simp only [run, Option.map_some, Nat.reduceEqDiff, Nat.reduceAdd, Nat.zero_add, ↓reduceIte, decide_eq_true_eq, decide_true, decide_false, Bool.not_true, Bool.not_false, Bool.true_eq_false, Bool.false_eq_true, List.getElem?_cons_zero, List.getElem?_cons_succ, List.nil_append, List.cons_append, reduceCtorEq, eq_self, decide_eq_false_iff_not, not_true_eq_false, not_false_eq_true, Nat.add_zero, Nat.succ_ne_self, Nat.one_ne_zero, Nat.zero_ne_one, rund, List.contains_cons, List.contains_nil, Nat.reduceBEq, Bool.and_true, Bool.true_and, Bool.and_false, Bool.false_and, Bool.or_false, Bool.or_true, Bool.false_or, Bool.true_or, true_or, or_true, true_and, and_true, beq_self_eq_true, L7, T0, T2, T3, T4, T5, T7, T8]
    refine use1 (v := [.int .i64 0, .int .i64 0, .int .i64 0, .int .i64 0, .int .i64 0, .int .i64 0, .bool false, .int .i64 0, .int .i64 0, .int .i64 0, .int .i64 0, .slice none 0 0, .int .i64 0, .int .i64 0, .slice none 0 0, .slice none 0 0, .int .i64 0, .int .i64 0, .int .i64 0, .int .i64 0, .int .i64 0, .slice none 0 0, .slice none 0 0, .slice none 0 0]) rfl ?_
    (try simp only [run, Option.map_some, Nat.reduceEqDiff, Nat.reduceAdd, Nat.zero_add, ↓reduceIte, decide_eq_true_eq, decide_true, decide_false, Bool.not_true, Bool.not_false, Bool.true_eq_false, Bool.false_eq_true, List.getElem?_cons_zero, List.getElem?_cons_succ, List.nil_append, List.cons_append, reduceCtorEq, eq_self, decide_eq_false_iff_not, not_true_eq_false, not_false_eq_true, Nat.add_zero, Nat.succ_ne_self, Nat.one_ne_zero, Nat.zero_ne_one])
    obtain ⟨g', f1, f2, f3, f4⟩ := stoW (k := 24) (vs := [.int .i64 0, .int .i64 0, .int .i64 0, .int .i64 0, .int .i64 0, .int .i64 0, .bool false, .int .i64 0, .int .i64 0, .int .i64 0, .int .i64 0, .slice none 0 0, .int .i64 0, .int .i64 0, .slice none 0 0, .slice none 0 0, .int .i64 0, .int .i64 0, .int .i64 0, .int .i64 0, .int .i64 0, .slice none 0 0, .slice none 0 0, .slice none 0 0]) gR7 rfl rfl rfl (by simp)
    refine use1 f1 ?_
    simp only [run, Option.map_some, Nat.reduceEqDiff, Nat.reduceAdd, Nat.zero_add, ↓reduceIte, decide_eq_true_eq, decide_true, decide_false, Bool.not_true, Bool.not_false, Bool.true_eq_false, Bool.false_eq_true, List.getElem?_cons_zero, List.getElem?_cons_succ, List.nil_append, List.cons_append, reduceCtorEq, eq_self, decide_eq_false_iff_not, not_true_eq_false, not_false_eq_true, Nat.add_zero, Nat.succ_ne_self, Nat.one_ne_zero, Nat.zero_ne_one, rund, List.contains_cons, List.contains_nil, Nat.reduceBEq, Bool.and_true, Bool.true_and, Bool.and_false, Bool.false_and, Bool.or_false, Bool.or_true, Bool.false_or, Bool.true_or, true_or, or_true, true_and, and_true, beq_self_eq_true, ld_whole (k := 24) f4 (by decide) rfl, if_pos kz]
    exact ⟨xb7.then f3 xb7.next (fun m hm (e : m = h.next) => by omega), _, rfl, _, _, _, _, _, _, rfl, Sl.nil, Sl.nil, Sl.nil, Sl.nil, Sl.nil, Sl.nil⟩
  · have T0 : ((k : Int) = 0) = False := eq_false kz
    simp only [run, Option.map_some, Nat.reduceEqDiff, Nat.reduceAdd, Nat.zero_add, ↓reduceIte, decide_eq_true_eq, decide_true, decide_false, Bool.not_true, Bool.not_false, Bool.true_eq_false, Bool.false_eq_true, List.getElem?_cons_zero, List.getElem?_cons_succ, List.nil_append, List.cons_append, reduceCtorEq, eq_self, decide_eq_false_iff_not, not_true_eq_false, not_false_eq_true, Nat.add_zero, Nat.succ_ne_self, Nat.one_ne_zero, Nat.zero_ne_one, rund, List.contains_cons, List.contains_nil, Nat.reduceBEq, Bool.and_true, Bool.true_and, Bool.and_false, Bool.false_and, Bool.or_false, Bool.or_true, Bool.false_or, Bool.true_or, true_or, or_true, true_and, and_true, beq_self_eq_true, L7, T0, T2, T3, T4, T5, T7, T8]
    refine useE (rrend_spec (by omega) r7) ?_
    by_cases hz : s4 = some []
    · obtain ⟨g', f1, f3, f6, f7⟩ := fin h7 _ { zeroM with kind := k, src := a2, dst := a3, view := a4 } gR7 rep7 xb7
      have f2 := ld_whole (k := 24) gB7 (by decide) rfl
      simp only [run, Option.map_some, Nat.reduceEqDiff, Nat.reduceAdd, Nat.zero_add, ↓reduceIte, decide_eq_true_eq, decide_true, decide_false, Bool.not_true, Bool.not_false, Bool.true_eq_false, Bool.false_eq_true, List.getElem?_cons_zero, List.getElem?_cons_succ, List.nil_append, List.cons_append, reduceCtorEq, eq_self, decide_eq_false_iff_not, not_true_eq_false, not_false_eq_true, Nat.add_zero, Nat.succ_ne_self, Nat.one_ne_zero, Nat.zero_ne_one, rund, List.contains_cons, List.contains_nil, Nat.reduceBEq, Bool.and_true, Bool.true_and, Bool.and_false, Bool.false_and, Bool.or_false, Bool.or_true, Bool.false_or, Bool.true_or, true_or, or_true, true_and, and_true, beq_self_eq_true, hz, f2]
      refine use1 f1 ?_
      simp only [run, Option.map_some, Nat.reduceEqDiff, Nat.reduceAdd, Nat.zero_add, ↓reduceIte, decide_eq_true_eq, decide_true, decide_false, Bool.not_true, Bool.not_false, Bool.true_eq_false, Bool.false_eq_true, List.getElem?_cons_zero, List.getElem?_cons_succ, List.nil_append, List.cons_append, reduceCtorEq, eq_self, decide_eq_false_iff_not, not_true_eq_false, not_false_eq_true, Nat.add_zero, Nat.succ_ne_self, Nat.one_ne_zero, Nat.zero_ne_one, rund, List.contains_cons, List.contains_nil, Nat.reduceBEq, Bool.and_true, Bool.true_and, Bool.and_false, Bool.false_and, Bool.or_false, Bool.or_true, Bool.false_or, Bool.true_or, true_or, or_true, true_and, and_true, beq_self_eq_true, f3, hz, if_neg kz]
      exact ⟨f6, _, rfl, f7⟩
    · simp only [run, Option.map_some, Nat.reduceEqDiff, Nat.reduceAdd, Nat.zero_add, ↓reduceIte, decide_eq_true_eq, decide_true, decide_false, Bool.not_true, Bool.not_false, Bool.true_eq_false, Bool.false_eq_true, List.getElem?_cons_zero, List.getElem?_cons_succ, List.nil_append, List.cons_append, reduceCtorEq, eq_self, decide_eq_false_iff_not, not_true_eq_false, not_false_eq_true, Nat.add_zero, Nat.succ_ne_self, Nat.one_ne_zero, Nat.zero_ne_one, rund, List.contains_cons, List.contains_nil, Nat.reduceBEq, Bool.and_true, Bool.true_and, Bool.and_false, Bool.false_and, Bool.or_false, Bool.or_true, Bool.false_or, Bool.true_or, true_or, or_true, true_and, and_true, beq_self_eq_true, hz]
      refine use1 (v := [.int .i64 0, .int .i64 0, .int .i64 0, .int .i64 0, .int .i64 0, .int .i64 0, .bool false, .int .i64 0, .int .i64 0, .int .i64 0, .int .i64 0, .slice none 0 0, .int .i64 0, .int .i64 0, .slice none 0 0, .slice none 0 0, .int .i64 0, .int .i64 0, .int .i64 0, .int .i64 0, .int .i64 0, .slice none 0 0, .slice none 0 0, .slice none 0 0]) rfl ?_
      (try simp only [run, Option.map_some, Nat.reduceEqDiff, Nat.reduceAdd, Nat.zero_add, ↓reduceIte, decide_eq_true_eq, decide_true, decide_false, Bool.not_true, Bool.not_false, Bool.true_eq_false, Bool.false_eq_true, List.getElem?_cons_zero, List.getElem?_cons_succ, List.nil_append, List.cons_append, reduceCtorEq, eq_self, decide_eq_false_iff_not, not_true_eq_false, not_false_eq_true, Nat.add_zero, Nat.succ_ne_self, Nat.one_ne_zero, Nat.zero_ne_one])
      obtain ⟨g', f1, f2, f3, f4⟩ := stoW (k := 24) (vs := [.int .i64 0, .int .i64 0, .int .i64 0, .int .i64 0, .int .i64 0, .int .i64 0, .bool false, .int .i64 0, .int .i64 0, .int .i64 0, .int .i64 0, .slice none 0 0, .int .i64 0, .int .i64 0, .slice none 0 0, .slice none 0 0, .int .i64 0, .int .i64 0, .int .i64 0, .int .i64 0, .int .i64 0, .slice none 0 0, .slice none 0 0, .slice none 0 0]) gR7 rfl rfl rfl (by simp)
      refine use1 f1 ?_
      simp only [run, Option.map_some, Nat.reduceEqDiff, Nat.reduceAdd, Nat.zero_add, ↓reduceIte, decide_eq_true_eq, decide_true, decide_false, Bool.not_true, Bool.not_false, Bool.true_eq_false, Bool.false_eq_true, List.getElem?_cons_zero, List.getElem?_cons_succ, List.nil_append, List.cons_append, reduceCtorEq, eq_self, decide_eq_false_iff_not, not_true_eq_false, not_false_eq_true, Nat.add_zero, Nat.succ_ne_self, Nat.one_ne_zero, Nat.zero_ne_one, rund, List.contains_cons, List.contains_nil, Nat.reduceBEq, Bool.and_true, Bool.true_and, Bool.and_false, Bool.false_and, Bool.or_false, Bool.or_true, Bool.false_or, Bool.true_or, true_or, or_true, true_and, and_true, beq_self_eq_true, ld_whole (k := 24) f4 (by decide) rfl, hz, if_neg kz]
      exact ⟨xb7.then f3 xb7.next (fun m hm (e : m = h.next) => by omega), _, rfl, _, _, _, _, _, _, rfl, Sl.nil, Sl.nil, Sl.nil, Sl.nil, Sl.nil, Sl.nil⟩

end Go.Proofs.Ytapmpenkceomdaa
/- Messages that are alike. -/
set_option linter.unusedSimpArgs false
set_option linter.unusedVariables false
set_option maxRecDepth 20000
namespace Go.Proofs.Ytapmpenkceomdaa
open Go.Ab

variable {n d : Nat} {h : AHeap}

def beyondB (m : Msg) : Bool := (decide (7 < m.have_.length) && decide (m.kind = 7)) || (decide (8 < m.need.length) && decide (m.kind = 7)) || (decide (64 < m.data.length) && decide (m.kind = 5))

theorem beyond_spec (hd : 1 ≤ d) {cs : List Value} {m : Msg} (hm : RepM 0 h.next h cs m) :
    ∃ v' h', aCall Try.prog n d 98 [.agg ⟨cs⟩] h = some (v', h') ∧ v' = .bool (beyondB m) ∧ Ext no h.next h h' := by
  obtain ⟨d, rfl, hd⟩ := depth hd
  refine call_of t98 (Nat.le_of_ble_eq_true rfl) ?_
  simp only [c98, run, Option.map_some, Nat.reduceEqDiff, Nat.reduceAdd, Nat.zero_add, ↓reduceIte, decide_eq_true_eq, decide_true, decide_false, Bool.not_true, Bool.not_false, Bool.true_eq_false, Bool.false_eq_true, List.getElem?_cons_zero, List.getElem?_cons_succ, List.nil_append, List.cons_append, reduceCtorEq, eq_self, decide_eq_false_iff_not, not_true_eq_false, not_false_eq_true, Nat.add_zero, Nat.succ_ne_self, Nat.one_ne_zero, Nat.zero_ne_one, cells_agg]
  obtain ⟨h0, eh0, x0, n0, g0⟩ := boxed h ⟨cs, 24, 0, none⟩
  rw [eh0]
  obtain ⟨a, b, c, k, v, o, rfl, ra, rb, rc, rk, rv, ro⟩ := hm.keep x0 (Nat.le_refl _)
  have L := fun i => ld_cell (o := i) g0 (by decide)
  unfold beyondB
  have p1 : decide ((7 : Int) < (m.have_.length : Nat)) = decide (7 < m.have_.length) := decide_eq_decide.2 (by omega)
  have p2 : decide ((8 : Int) < (m.need.length : Nat)) = decide (8 < m.need.length) := decide_eq_decide.2 (by omega)
  have p3 : decide ((64 : Int) < (m.data.length : Nat)) = decide (64 < m.data.length) := decide_eq_decide.2 (by omega)
  simp only [run, Option.map_some, Nat.reduceEqDiff, Nat.reduceAdd, Nat.zero_add, ↓reduceIte, decide_eq_true_eq, decide_true, decide_false, Bool.not_true, Bool.not_false, Bool.true_eq_false, Bool.false_eq_true, List.getElem?_cons_zero, List.getElem?_cons_succ, List.nil_append, List.cons_append, reduceCtorEq, eq_self, decide_eq_false_iff_not, not_true_eq_false, not_false_eq_true, Nat.add_zero, Nat.succ_ne_self, Nat.one_ne_zero, Nat.zero_ne_one, L, lenI rb, p1]
  generalize decide (7 < m.have_.length) = B1
  generalize decide (8 < m.need.length) = B2 at *
  generalize decide (64 < m.data.length) = B3 at *
  by_cases k7 : m.kind = 7
  · have k5 : ¬ m.kind = 5 := by omega
    have K7 := eq_true k7
    have K5 := eq_false k5
    cases B1 <;> cases B2 <;> cases B3 <;> simp only [run, Option.map_some, Nat.reduceEqDiff, Nat.reduceAdd, Nat.zero_add, ↓reduceIte, decide_eq_true_eq, decide_true, decide_false, Bool.not_true, Bool.not_false, Bool.true_eq_false, Bool.false_eq_true, List.getElem?_cons_zero, List.getElem?_cons_succ, List.nil_append, List.cons_append, reduceCtorEq, eq_self, decide_eq_false_iff_not, not_true_eq_false, not_false_eq_true, Nat.add_zero, Nat.succ_ne_self, Nat.one_ne_zero, Nat.zero_ne_one, L, lenI rb, lenI rc, lenB ra, p1, p2, p3, K7, K5, Bool.and_true, Bool.and_false, Bool.or_true, Bool.or_false, Bool.true_or, Bool.false_or, Bool.true_and, Bool.false_and, true_and] <;> exact x0
  · have K7 := eq_false k7
    by_cases k5 : m.kind = 5
    · have K5 := eq_true k5
      cases B1 <;> cases B2 <;> cases B3 <;> simp only [run, Option.map_some, Nat.reduceEqDiff, Nat.reduceAdd, Nat.zero_add, ↓reduceIte, decide_eq_true_eq, decide_true, decide_false, Bool.not_true, Bool.not_false, Bool.true_eq_false, Bool.false_eq_true, List.getElem?_cons_zero, List.getElem?_cons_succ, List.nil_append, List.cons_append, reduceCtorEq, eq_self, decide_eq_false_iff_not, not_true_eq_false, not_false_eq_true, Nat.add_zero, Nat.succ_ne_self, Nat.one_ne_zero, Nat.zero_ne_one, L, lenI rb, lenI rc, lenB ra, p1, p2, p3, K7, K5, Bool.and_true, Bool.and_false, Bool.or_true, Bool.or_false, Bool.true_or, Bool.false_or, Bool.true_and, Bool.false_and, true_and] <;> exact x0
    · have K5 := eq_false k5
      cases B1 <;> cases B2 <;> cases B3 <;> simp only [run, Option.map_some, Nat.reduceEqDiff, Nat.reduceAdd, Nat.zero_add, ↓reduceIte, decide_eq_true_eq, decide_true, decide_false, Bool.not_true, Bool.not_false, Bool.true_eq_false, Bool.false_eq_true, List.getElem?_cons_zero, List.getElem?_cons_succ, List.nil_append, List.cons_append, reduceCtorEq, eq_self, decide_eq_false_iff_not, not_true_eq_false, not_false_eq_true, Nat.add_zero, Nat.succ_ne_self, Nat.one_ne_zero, Nat.zero_ne_one, L, lenI rb, lenI rc, lenB ra, p1, p2, p3, K7, K5, Bool.and_true, Bool.and_false, Bool.or_true, Bool.or_false, Bool.true_or, Bool.false_or, Bool.true_and, Bool.false_and, true_and] <;> exact x0

/-- what a kind names is the same -/
def fieldsB (a b : Msg) : Bool :=
  if a.kind = 2 then decide (a.inst = b.inst ∧ a.len = b.len ∧ a.has = b.has)
  else if a.kind = 3 then decide (a.members = b.members ∧ a.source = b.source ∧ a.len = b.len)
  else if a.kind = 4 then decide (a.place = b.place)
  else if a.kind = 5 then decide (a.place = b.place ∧ a.total = b.total ∧ a.data = b.data)
  else if a.kind = 7 then decide (a.hop = b.hop ∧ a.seq = b.seq ∧ a.have_ = b.have_ ∧ a.need = b.need)
  else if a.kind = 8 then decide (a.index = b.index ∧ a.entry = b.entry)
  else true
def alikeB (a b : Msg) : Bool := decide (a.kind = b.kind ∧ a.src = b.src ∧ a.dst = b.dst ∧ a.view = b.view) && fieldsB a b

theorem beq_dec (x y : Bool) : (x == y) = decide (x = y) := by cases x <;> cases y <;> rfl

theorem fields_spec (hd : 3 ≤ d) {cs ct : List Value} {a b : Msg} (ha : RepM 0 h.next h cs a) (hb : RepM 0 h.next h ct b) (hl1 : a.have_.length < n) (hl2 : a.need.length < n) (hl3 : a.have_.length ≤ 2 ^ 46) (hl4 : a.need.length ≤ 2 ^ 46) :
    ∃ v' h', aCall Try.prog n d 159 [.agg ⟨cs⟩, .agg ⟨ct⟩] h = some (v', h') ∧ v' = .bool (fieldsB a b) ∧ Ext no h.next h h' := by
  obtain ⟨d, rfl, hd⟩ := depth hd
  refine call_of t159 (Nat.le_of_ble_eq_true rfl) ?_
  simp only [c159, run, Option.map_some, Nat.reduceEqDiff, Nat.reduceAdd, Nat.zero_add, ↓reduceIte, decide_eq_true_eq, decide_true, decide_false, Bool.not_true, Bool.not_false, Bool.true_eq_false, Bool.false_eq_true, List.getElem?_cons_zero, List.getElem?_cons_succ, List.nil_append, List.cons_append, reduceCtorEq, eq_self, decide_eq_false_iff_not, not_true_eq_false, not_false_eq_true, Nat.add_zero, Nat.succ_ne_self, Nat.one_ne_zero, Nat.zero_ne_one, cells_agg]
  obtain ⟨h0, eh0, x0, n0, g0⟩ := boxed h ⟨cs, 24, 0, none⟩
  rw [eh0]
  obtain ⟨h1, eh1, x1, n1, g1⟩ := boxed h0 ⟨ct, 24, 0, none⟩
  rw [eh1]
  have g01 := blk0 x1 g0 (by omega)
  have xb : Ext no h.next h h1 := x0.trans x1 (by omega)
  obtain ⟨p1, p2, p3, p4, p5, p6, rfl, ra1, rb1, rc1, rk1, rv1, ro1⟩ := ha.keep xb (Nat.le_refl _)
  obtain ⟨q1, q2, q3, q4, q5, q6, rfl, ra2, rb2, rc2, rk2, rv2, ro2⟩ := hb.keep xb (Nat.le_refl _)
  have La := fun i => ld_cell (o := i) g01 (by decide)
  have Lb := fun i => ld_cell (o := i) g1 (by decide)
  have Pa : h1.loadN h.next 17 7 = some [.int .i64 a.entry.sess, .int .i64 a.entry.seq, .int .i64 a.entry.kind, .int .i64 a.entry.who, p4, p5, p6] := ld_part (o := 17) (k := 7) g01 (by decide) (Nat.le_of_ble_eq_true rfl)
  have Pb : h1.loadN h0.next 17 7 = some [.int .i64 b.entry.sess, .int .i64 b.entry.seq, .int .i64 b.entry.kind, .int .i64 b.entry.who, q4, q5, q6] := ld_part (o := 17) (k := 7) g1 (by decide) (Nat.le_of_ble_eq_true rfl)
  simp only [run, Option.map_some, Nat.reduceEqDiff, Nat.reduceAdd, Nat.zero_add, ↓reduceIte, decide_eq_true_eq, decide_true, decide_false, Bool.not_true, Bool.not_false, Bool.true_eq_false, Bool.false_eq_true, List.getElem?_cons_zero, List.getElem?_cons_succ, List.nil_append, List.cons_append, reduceCtorEq, eq_self, decide_eq_false_iff_not, not_true_eq_false, not_false_eq_true, Nat.add_zero, Nat.succ_ne_self, Nat.one_ne_zero, Nat.zero_ne_one, La]
  by_cases k2 : a.kind = 2
  · have T2 : (a.kind = 2) = True := eq_true (by omega)
    have T3 : (a.kind = 3) = False := eq_false (by omega)
    have T4 : (a.kind = 4) = False := eq_false (by omega)
    have T5 : (a.kind = 5) = False := eq_false (by omega)
    have T7 : (a.kind = 7) = False := eq_false (by omega)
    have T8 : (a.kind = 8) = False := eq_false (by omega)
    have ef : fieldsB a b = decide (a.inst = b.inst ∧ a.len = b.len ∧ a.has = b.has) := by unfold fieldsB; simp only [T2, T3, T4, T5, T7, T8, if_true, if_false]
    rw [ef]
    simp only [run, Option.map_some, Nat.reduceEqDiff, Nat.reduceAdd, Nat.zero_add, ↓reduceIte, decide_eq_true_eq, decide_true, decide_false, Bool.not_true, Bool.not_false, Bool.true_eq_false, Bool.false_eq_true, List.getElem?_cons_zero, List.getElem?_cons_succ, List.nil_append, List.cons_append, reduceCtorEq, eq_self, decide_eq_false_iff_not, not_true_eq_false, not_false_eq_true, Nat.add_zero, Nat.succ_ne_self, Nat.one_ne_zero, Nat.zero_ne_one, La, Lb, Pa, Pb, beq_dec, T2, T3, T4, T5, T7, T8]
    by_cases c0 : a.inst = b.inst
    rotate_left
    · (try simp only [run, Option.map_some, Nat.reduceEqDiff, Nat.reduceAdd, Nat.zero_add, ↓reduceIte, decide_eq_true_eq, decide_true, decide_false, Bool.not_true, Bool.not_false, Bool.true_eq_false, Bool.false_eq_true, List.getElem?_cons_zero, List.getElem?_cons_succ, List.nil_append, List.cons_append, reduceCtorEq, eq_self, decide_eq_false_iff_not, not_true_eq_false, not_false_eq_true, Nat.add_zero, Nat.succ_ne_self, Nat.one_ne_zero, Nat.zero_ne_one, La, Lb, Pa, Pb, beq_dec, c0])
      exact ⟨by first | trivial | simp [c0], xb⟩
    (try simp only [run, Option.map_some, Nat.reduceEqDiff, Nat.reduceAdd, Nat.zero_add, ↓reduceIte, decide_eq_true_eq, decide_true, decide_false, Bool.not_true, Bool.not_false, Bool.true_eq_false, Bool.false_eq_true, List.getElem?_cons_zero, List.getElem?_cons_succ, List.nil_append, List.cons_append, reduceCtorEq, eq_self, decide_eq_false_iff_not, not_true_eq_false, not_false_eq_true, Nat.add_zero, Nat.succ_ne_self, Nat.one_ne_zero, Nat.zero_ne_one, La, Lb, Pa, Pb, beq_dec, c0])
    by_cases c1 : a.len = b.len
    rotate_left
    · (try simp only [run, Option.map_some, Nat.reduceEqDiff, Nat.reduceAdd, Nat.zero_add, ↓reduceIte, decide_eq_true_eq, decide_true, decide_false, Bool.not_true, Bool.not_false, Bool.true_eq_false, Bool.false_eq_true, List.getElem?_cons_zero, List.getElem?_cons_succ, List.nil_append, List.cons_append, reduceCtorEq, eq_self, decide_eq_false_iff_not, not_true_eq_false, not_false_eq_true, Nat.add_zero, Nat.succ_ne_self, Nat.one_ne_zero, Nat.zero_ne_one, La, Lb, Pa, Pb, beq_dec, c1])
      exact ⟨by first | trivial | simp [c1], xb⟩
    (try simp only [run, Option.map_some, Nat.reduceEqDiff, Nat.reduceAdd, Nat.zero_add, ↓reduceIte, decide_eq_true_eq, decide_true, decide_false, Bool.not_true, Bool.not_false, Bool.true_eq_false, Bool.false_eq_true, List.getElem?_cons_zero, List.getElem?_cons_succ, List.nil_append, List.cons_append, reduceCtorEq, eq_self, decide_eq_false_iff_not, not_true_eq_false, not_false_eq_true, Nat.add_zero, Nat.succ_ne_self, Nat.one_ne_zero, Nat.zero_ne_one, La, Lb, Pa, Pb, beq_dec, c1])
    by_cases c2 : a.has = b.has
    rotate_left
    · (try simp only [run, Option.map_some, Nat.reduceEqDiff, Nat.reduceAdd, Nat.zero_add, ↓reduceIte, decide_eq_true_eq, decide_true, decide_false, Bool.not_true, Bool.not_false, Bool.true_eq_false, Bool.false_eq_true, List.getElem?_cons_zero, List.getElem?_cons_succ, List.nil_append, List.cons_append, reduceCtorEq, eq_self, decide_eq_false_iff_not, not_true_eq_false, not_false_eq_true, Nat.add_zero, Nat.succ_ne_self, Nat.one_ne_zero, Nat.zero_ne_one, La, Lb, Pa, Pb, beq_dec, c2])
      exact ⟨by first | trivial | simp [c2], xb⟩
    (try simp only [run, Option.map_some, Nat.reduceEqDiff, Nat.reduceAdd, Nat.zero_add, ↓reduceIte, decide_eq_true_eq, decide_true, decide_false, Bool.not_true, Bool.not_false, Bool.true_eq_false, Bool.false_eq_true, List.getElem?_cons_zero, List.getElem?_cons_succ, List.nil_append, List.cons_append, reduceCtorEq, eq_self, decide_eq_false_iff_not, not_true_eq_false, not_false_eq_true, Nat.add_zero, Nat.succ_ne_self, Nat.one_ne_zero, Nat.zero_ne_one, La, Lb, Pa, Pb, beq_dec, c2])
    exact ⟨by first | trivial | simp [c0, c1, c2], xb⟩
  by_cases k3 : a.kind = 3
  · have T2 : (a.kind = 2) = False := eq_false (by omega)
    have T3 : (a.kind = 3) = True := eq_true (by omega)
    have T4 : (a.kind = 4) = False := eq_false (by omega)
    have T5 : (a.kind = 5) = False := eq_false (by omega)
    have T7 : (a.kind = 7) = False := eq_false (by omega)
    have T8 : (a.kind = 8) = False := eq_false (by omega)
    have ef : fieldsB a b = decide (a.members = b.members ∧ a.source = b.source ∧ a.len = b.len) := by unfold fieldsB; simp only [T2, T3, T4, T5, T7, T8, if_true, if_false]
    rw [ef]
    simp only [run, Option.map_some, Nat.reduceEqDiff, Nat.reduceAdd, Nat.zero_add, ↓reduceIte, decide_eq_true_eq, decide_true, decide_false, Bool.not_true, Bool.not_false, Bool.true_eq_false, Bool.false_eq_true, List.getElem?_cons_zero, List.getElem?_cons_succ, List.nil_append, List.cons_append, reduceCtorEq, eq_self, decide_eq_false_iff_not, not_true_eq_false, not_false_eq_true, Nat.add_zero, Nat.succ_ne_self, Nat.one_ne_zero, Nat.zero_ne_one, La, Lb, Pa, Pb, beq_dec, T2, T3, T4, T5, T7, T8]
    by_cases c0 : a.members = b.members
    rotate_left
    · (try simp only [run, Option.map_some, Nat.reduceEqDiff, Nat.reduceAdd, Nat.zero_add, ↓reduceIte, decide_eq_true_eq, decide_true, decide_false, Bool.not_true, Bool.not_false, Bool.true_eq_false, Bool.false_eq_true, List.getElem?_cons_zero, List.getElem?_cons_succ, List.nil_append, List.cons_append, reduceCtorEq, eq_self, decide_eq_false_iff_not, not_true_eq_false, not_false_eq_true, Nat.add_zero, Nat.succ_ne_self, Nat.one_ne_zero, Nat.zero_ne_one, La, Lb, Pa, Pb, beq_dec, c0])
      exact ⟨by first | trivial | simp [c0], xb⟩
    (try simp only [run, Option.map_some, Nat.reduceEqDiff, Nat.reduceAdd, Nat.zero_add, ↓reduceIte, decide_eq_true_eq, decide_true, decide_false, Bool.not_true, Bool.not_false, Bool.true_eq_false, Bool.false_eq_true, List.getElem?_cons_zero, List.getElem?_cons_succ, List.nil_append, List.cons_append, reduceCtorEq, eq_self, decide_eq_false_iff_not, not_true_eq_false, not_false_eq_true, Nat.add_zero, Nat.succ_ne_self, Nat.one_ne_zero, Nat.zero_ne_one, La, Lb, Pa, Pb, beq_dec, c0])
    by_cases c1 : a.source = b.source
    rotate_left
    · (try simp only [run, Option.map_some, Nat.reduceEqDiff, Nat.reduceAdd, Nat.zero_add, ↓reduceIte, decide_eq_true_eq, decide_true, decide_false, Bool.not_true, Bool.not_false, Bool.true_eq_false, Bool.false_eq_true, List.getElem?_cons_zero, List.getElem?_cons_succ, List.nil_append, List.cons_append, reduceCtorEq, eq_self, decide_eq_false_iff_not, not_true_eq_false, not_false_eq_true, Nat.add_zero, Nat.succ_ne_self, Nat.one_ne_zero, Nat.zero_ne_one, La, Lb, Pa, Pb, beq_dec, c1])
      exact ⟨by first | trivial | simp [c1], xb⟩
    (try simp only [run, Option.map_some, Nat.reduceEqDiff, Nat.reduceAdd, Nat.zero_add, ↓reduceIte, decide_eq_true_eq, decide_true, decide_false, Bool.not_true, Bool.not_false, Bool.true_eq_false, Bool.false_eq_true, List.getElem?_cons_zero, List.getElem?_cons_succ, List.nil_append, List.cons_append, reduceCtorEq, eq_self, decide_eq_false_iff_not, not_true_eq_false, not_false_eq_true, Nat.add_zero, Nat.succ_ne_self, Nat.one_ne_zero, Nat.zero_ne_one, La, Lb, Pa, Pb, beq_dec, c1])
    by_cases c2 : a.len = b.len
    rotate_left
    · (try simp only [run, Option.map_some, Nat.reduceEqDiff, Nat.reduceAdd, Nat.zero_add, ↓reduceIte, decide_eq_true_eq, decide_true, decide_false, Bool.not_true, Bool.not_false, Bool.true_eq_false, Bool.false_eq_true, List.getElem?_cons_zero, List.getElem?_cons_succ, List.nil_append, List.cons_append, reduceCtorEq, eq_self, decide_eq_false_iff_not, not_true_eq_false, not_false_eq_true, Nat.add_zero, Nat.succ_ne_self, Nat.one_ne_zero, Nat.zero_ne_one, La, Lb, Pa, Pb, beq_dec, c2])
      exact ⟨by first | trivial | simp [c2], xb⟩
    (try simp only [run, Option.map_some, Nat.reduceEqDiff, Nat.reduceAdd, Nat.zero_add, ↓reduceIte, decide_eq_true_eq, decide_true, decide_false, Bool.not_true, Bool.not_false, Bool.true_eq_false, Bool.false_eq_true, List.getElem?_cons_zero, List.getElem?_cons_succ, List.nil_append, List.cons_append, reduceCtorEq, eq_self, decide_eq_false_iff_not, not_true_eq_false, not_false_eq_true, Nat.add_zero, Nat.succ_ne_self, Nat.one_ne_zero, Nat.zero_ne_one, La, Lb, Pa, Pb, beq_dec, c2])
    exact ⟨by first | trivial | simp [c0, c1, c2], xb⟩
  by_cases k4 : a.kind = 4
  · have T2 : (a.kind = 2) = False := eq_false (by omega)
    have T3 : (a.kind = 3) = False := eq_false (by omega)
    have T4 : (a.kind = 4) = True := eq_true (by omega)
    have T5 : (a.kind = 5) = False := eq_false (by omega)
    have T7 : (a.kind = 7) = False := eq_false (by omega)
    have T8 : (a.kind = 8) = False := eq_false (by omega)
    have ef : fieldsB a b = decide (a.place = b.place) := by unfold fieldsB; simp only [T2, T3, T4, T5, T7, T8, if_true, if_false]
    rw [ef]
    simp only [run, Option.map_some, Nat.reduceEqDiff, Nat.reduceAdd, Nat.zero_add, ↓reduceIte, decide_eq_true_eq, decide_true, decide_false, Bool.not_true, Bool.not_false, Bool.true_eq_false, Bool.false_eq_true, List.getElem?_cons_zero, List.getElem?_cons_succ, List.nil_append, List.cons_append, reduceCtorEq, eq_self, decide_eq_false_iff_not, not_true_eq_false, not_false_eq_true, Nat.add_zero, Nat.succ_ne_self, Nat.one_ne_zero, Nat.zero_ne_one, La, Lb, Pa, Pb, beq_dec, T2, T3, T4, T5, T7, T8]
    by_cases c0 : a.place = b.place
    rotate_left
    · (try simp only [run, Option.map_some, Nat.reduceEqDiff, Nat.reduceAdd, Nat.zero_add, ↓reduceIte, decide_eq_true_eq, decide_true, decide_false, Bool.not_true, Bool.not_false, Bool.true_eq_false, Bool.false_eq_true, List.getElem?_cons_zero, List.getElem?_cons_succ, List.nil_append, List.cons_append, reduceCtorEq, eq_self, decide_eq_false_iff_not, not_true_eq_false, not_false_eq_true, Nat.add_zero, Nat.succ_ne_self, Nat.one_ne_zero, Nat.zero_ne_one, La, Lb, Pa, Pb, beq_dec, c0])
      exact ⟨by first | trivial | simp [c0], xb⟩
    (try simp only [run, Option.map_some, Nat.reduceEqDiff, Nat.reduceAdd, Nat.zero_add, ↓reduceIte, decide_eq_true_eq, decide_true, decide_false, Bool.not_true, Bool.not_false, Bool.true_eq_false, Bool.false_eq_true, List.getElem?_cons_zero, List.getElem?_cons_succ, List.nil_append, List.cons_append, reduceCtorEq, eq_self, decide_eq_false_iff_not, not_true_eq_false, not_false_eq_true, Nat.add_zero, Nat.succ_ne_self, Nat.one_ne_zero, Nat.zero_ne_one, La, Lb, Pa, Pb, beq_dec, c0])
    exact ⟨by first | trivial | simp [c0], xb⟩
  by_cases k5 : a.kind = 5
  · have T2 : (a.kind = 2) = False := eq_false (by omega)
    have T3 : (a.kind = 3) = False := eq_false (by omega)
    have T4 : (a.kind = 4) = False := eq_false (by omega)
    have T5 : (a.kind = 5) = True := eq_true (by omega)
    have T7 : (a.kind = 7) = False := eq_false (by omega)
    have T8 : (a.kind = 8) = False := eq_false (by omega)
    have ef : fieldsB a b = decide (a.place = b.place ∧ a.total = b.total ∧ a.data = b.data) := by unfold fieldsB; simp only [T2, T3, T4, T5, T7, T8, if_true, if_false]
    rw [ef]
    simp only [run, Option.map_some, Nat.reduceEqDiff, Nat.reduceAdd, Nat.zero_add, ↓reduceIte, decide_eq_true_eq, decide_true, decide_false, Bool.not_true, Bool.not_false, Bool.true_eq_false, Bool.false_eq_true, List.getElem?_cons_zero, List.getElem?_cons_succ, List.nil_append, List.cons_append, reduceCtorEq, eq_self, decide_eq_false_iff_not, not_true_eq_false, not_false_eq_true, Nat.add_zero, Nat.succ_ne_self, Nat.one_ne_zero, Nat.zero_ne_one, La, Lb, Pa, Pb, beq_dec, T2, T3, T4, T5, T7, T8]
    by_cases c0 : a.place = b.place
    rotate_left
    · (try simp only [run, Option.map_some, Nat.reduceEqDiff, Nat.reduceAdd, Nat.zero_add, ↓reduceIte, decide_eq_true_eq, decide_true, decide_false, Bool.not_true, Bool.not_false, Bool.true_eq_false, Bool.false_eq_true, List.getElem?_cons_zero, List.getElem?_cons_succ, List.nil_append, List.cons_append, reduceCtorEq, eq_self, decide_eq_false_iff_not, not_true_eq_false, not_false_eq_true, Nat.add_zero, Nat.succ_ne_self, Nat.one_ne_zero, Nat.zero_ne_one, La, Lb, Pa, Pb, beq_dec, c0])
      exact ⟨by first | trivial | simp [c0], xb⟩
    (try simp only [run, Option.map_some, Nat.reduceEqDiff, Nat.reduceAdd, Nat.zero_add, ↓reduceIte, decide_eq_true_eq, decide_true, decide_false, Bool.not_true, Bool.not_false, Bool.true_eq_false, Bool.false_eq_true, List.getElem?_cons_zero, List.getElem?_cons_succ, List.nil_append, List.cons_append, reduceCtorEq, eq_self, decide_eq_false_iff_not, not_true_eq_false, not_false_eq_true, Nat.add_zero, Nat.succ_ne_self, Nat.one_ne_zero, Nat.zero_ne_one, La, Lb, Pa, Pb, beq_dec, c0])
    by_cases c1 : a.total = b.total
    rotate_left
    · (try simp only [run, Option.map_some, Nat.reduceEqDiff, Nat.reduceAdd, Nat.zero_add, ↓reduceIte, decide_eq_true_eq, decide_true, decide_false, Bool.not_true, Bool.not_false, Bool.true_eq_false, Bool.false_eq_true, List.getElem?_cons_zero, List.getElem?_cons_succ, List.nil_append, List.cons_append, reduceCtorEq, eq_self, decide_eq_false_iff_not, not_true_eq_false, not_false_eq_true, Nat.add_zero, Nat.succ_ne_self, Nat.one_ne_zero, Nat.zero_ne_one, La, Lb, Pa, Pb, beq_dec, c1])
      exact ⟨by first | trivial | simp [c1], xb⟩
    (try simp only [run, Option.map_some, Nat.reduceEqDiff, Nat.reduceAdd, Nat.zero_add, ↓reduceIte, decide_eq_true_eq, decide_true, decide_false, Bool.not_true, Bool.not_false, Bool.true_eq_false, Bool.false_eq_true, List.getElem?_cons_zero, List.getElem?_cons_succ, List.nil_append, List.cons_append, reduceCtorEq, eq_self, decide_eq_false_iff_not, not_true_eq_false, not_false_eq_true, Nat.add_zero, Nat.succ_ne_self, Nat.one_ne_zero, Nat.zero_ne_one, La, Lb, Pa, Pb, beq_dec, c1])
    refine useE (equal_spec (by omega) ra1 ra2) ?_
    (try simp only [run, Option.map_some, Nat.reduceEqDiff, Nat.reduceAdd, Nat.zero_add, ↓reduceIte, decide_eq_true_eq, decide_true, decide_false, Bool.not_true, Bool.not_false, Bool.true_eq_false, Bool.false_eq_true, List.getElem?_cons_zero, List.getElem?_cons_succ, List.nil_append, List.cons_append, reduceCtorEq, eq_self, decide_eq_false_iff_not, not_true_eq_false, not_false_eq_true, Nat.add_zero, Nat.succ_ne_self, Nat.one_ne_zero, Nat.zero_ne_one, La, Lb, Pa, Pb, beq_dec])
    by_cases c2 : a.data = b.data
    rotate_left
    · (try simp only [run, Option.map_some, Nat.reduceEqDiff, Nat.reduceAdd, Nat.zero_add, ↓reduceIte, decide_eq_true_eq, decide_true, decide_false, Bool.not_true, Bool.not_false, Bool.true_eq_false, Bool.false_eq_true, List.getElem?_cons_zero, List.getElem?_cons_succ, List.nil_append, List.cons_append, reduceCtorEq, eq_self, decide_eq_false_iff_not, not_true_eq_false, not_false_eq_true, Nat.add_zero, Nat.succ_ne_self, Nat.one_ne_zero, Nat.zero_ne_one, La, Lb, Pa, Pb, beq_dec, c2])
      exact ⟨by first | trivial | simp [c2], xb⟩
    (try simp only [run, Option.map_some, Nat.reduceEqDiff, Nat.reduceAdd, Nat.zero_add, ↓reduceIte, decide_eq_true_eq, decide_true, decide_false, Bool.not_true, Bool.not_false, Bool.true_eq_false, Bool.false_eq_true, List.getElem?_cons_zero, List.getElem?_cons_succ, List.nil_append, List.cons_append, reduceCtorEq, eq_self, decide_eq_false_iff_not, not_true_eq_false, not_false_eq_true, Nat.add_zero, Nat.succ_ne_self, Nat.one_ne_zero, Nat.zero_ne_one, La, Lb, Pa, Pb, beq_dec, c2])
    exact ⟨by first | trivial | simp [c0, c1, c2], xb⟩
  by_cases k7 : a.kind = 7
  · have T2 : (a.kind = 2) = False := eq_false (by omega)
    have T3 : (a.kind = 3) = False := eq_false (by omega)
    have T4 : (a.kind = 4) = False := eq_false (by omega)
    have T5 : (a.kind = 5) = False := eq_false (by omega)
    have T7 : (a.kind = 7) = True := eq_true (by omega)
    have T8 : (a.kind = 8) = False := eq_false (by omega)
    have ef : fieldsB a b = decide (a.hop = b.hop ∧ a.seq = b.seq ∧ a.have_ = b.have_ ∧ a.need = b.need) := by unfold fieldsB; simp only [T2, T3, T4, T5, T7, T8, if_true, if_false]
    rw [ef]
    simp only [run, Option.map_some, Nat.reduceEqDiff, Nat.reduceAdd, Nat.zero_add, ↓reduceIte, decide_eq_true_eq, decide_true, decide_false, Bool.not_true, Bool.not_false, Bool.true_eq_false, Bool.false_eq_true, List.getElem?_cons_zero, List.getElem?_cons_succ, List.nil_append, List.cons_append, reduceCtorEq, eq_self, decide_eq_false_iff_not, not_true_eq_false, not_false_eq_true, Nat.add_zero, Nat.succ_ne_self, Nat.one_ne_zero, Nat.zero_ne_one, La, Lb, Pa, Pb, beq_dec, T2, T3, T4, T5, T7, T8]
    by_cases c0 : a.hop = b.hop
    rotate_left
    · (try simp only [run, Option.map_some, Nat.reduceEqDiff, Nat.reduceAdd, Nat.zero_add, ↓reduceIte, decide_eq_true_eq, decide_true, decide_false, Bool.not_true, Bool.not_false, Bool.true_eq_false, Bool.false_eq_true, List.getElem?_cons_zero, List.getElem?_cons_succ, List.nil_append, List.cons_append, reduceCtorEq, eq_self, decide_eq_false_iff_not, not_true_eq_false, not_false_eq_true, Nat.add_zero, Nat.succ_ne_self, Nat.one_ne_zero, Nat.zero_ne_one, La, Lb, Pa, Pb, beq_dec, c0])
      exact ⟨by first | trivial | simp [c0], xb⟩
    (try simp only [run, Option.map_some, Nat.reduceEqDiff, Nat.reduceAdd, Nat.zero_add, ↓reduceIte, decide_eq_true_eq, decide_true, decide_false, Bool.not_true, Bool.not_false, Bool.true_eq_false, Bool.false_eq_true, List.getElem?_cons_zero, List.getElem?_cons_succ, List.nil_append, List.cons_append, reduceCtorEq, eq_self, decide_eq_false_iff_not, not_true_eq_false, not_false_eq_true, Nat.add_zero, Nat.succ_ne_self, Nat.one_ne_zero, Nat.zero_ne_one, La, Lb, Pa, Pb, beq_dec, c0])
    by_cases c1 : a.seq = b.seq
    rotate_left
    · (try simp only [run, Option.map_some, Nat.reduceEqDiff, Nat.reduceAdd, Nat.zero_add, ↓reduceIte, decide_eq_true_eq, decide_true, decide_false, Bool.not_true, Bool.not_false, Bool.true_eq_false, Bool.false_eq_true, List.getElem?_cons_zero, List.getElem?_cons_succ, List.nil_append, List.cons_append, reduceCtorEq, eq_self, decide_eq_false_iff_not, not_true_eq_false, not_false_eq_true, Nat.add_zero, Nat.succ_ne_self, Nat.one_ne_zero, Nat.zero_ne_one, La, Lb, Pa, Pb, beq_dec, c1])
      exact ⟨by first | trivial | simp [c1], xb⟩
    (try simp only [run, Option.map_some, Nat.reduceEqDiff, Nat.reduceAdd, Nat.zero_add, ↓reduceIte, decide_eq_true_eq, decide_true, decide_false, Bool.not_true, Bool.not_false, Bool.true_eq_false, Bool.false_eq_true, List.getElem?_cons_zero, List.getElem?_cons_succ, List.nil_append, List.cons_append, reduceCtorEq, eq_self, decide_eq_false_iff_not, not_true_eq_false, not_false_eq_true, Nat.add_zero, Nat.succ_ne_self, Nat.one_ne_zero, Nat.zero_ne_one, La, Lb, Pa, Pb, beq_dec, c1])
    refine useE (same176_spec (by omega) rb1 rb2 hl1 (by omega)) ?_
    (try simp only [run, Option.map_some, Nat.reduceEqDiff, Nat.reduceAdd, Nat.zero_add, ↓reduceIte, decide_eq_true_eq, decide_true, decide_false, Bool.not_true, Bool.not_false, Bool.true_eq_false, Bool.false_eq_true, List.getElem?_cons_zero, List.getElem?_cons_succ, List.nil_append, List.cons_append, reduceCtorEq, eq_self, decide_eq_false_iff_not, not_true_eq_false, not_false_eq_true, Nat.add_zero, Nat.succ_ne_self, Nat.one_ne_zero, Nat.zero_ne_one, La, Lb, Pa, Pb, beq_dec])
    by_cases c2 : a.have_ = b.have_
    rotate_left
    · (try simp only [run, Option.map_some, Nat.reduceEqDiff, Nat.reduceAdd, Nat.zero_add, ↓reduceIte, decide_eq_true_eq, decide_true, decide_false, Bool.not_true, Bool.not_false, Bool.true_eq_false, Bool.false_eq_true, List.getElem?_cons_zero, List.getElem?_cons_succ, List.nil_append, List.cons_append, reduceCtorEq, eq_self, decide_eq_false_iff_not, not_true_eq_false, not_false_eq_true, Nat.add_zero, Nat.succ_ne_self, Nat.one_ne_zero, Nat.zero_ne_one, La, Lb, Pa, Pb, beq_dec, c2])
      exact ⟨by first | trivial | simp [c2], xb⟩
    (try simp only [run, Option.map_some, Nat.reduceEqDiff, Nat.reduceAdd, Nat.zero_add, ↓reduceIte, decide_eq_true_eq, decide_true, decide_false, Bool.not_true, Bool.not_false, Bool.true_eq_false, Bool.false_eq_true, List.getElem?_cons_zero, List.getElem?_cons_succ, List.nil_append, List.cons_append, reduceCtorEq, eq_self, decide_eq_false_iff_not, not_true_eq_false, not_false_eq_true, Nat.add_zero, Nat.succ_ne_self, Nat.one_ne_zero, Nat.zero_ne_one, La, Lb, Pa, Pb, beq_dec, c2])
    refine useE (same176_spec (by omega) rc1 rc2 hl2 (by omega)) ?_
    (try simp only [run, Option.map_some, Nat.reduceEqDiff, Nat.reduceAdd, Nat.zero_add, ↓reduceIte, decide_eq_true_eq, decide_true, decide_false, Bool.not_true, Bool.not_false, Bool.true_eq_false, Bool.false_eq_true, List.getElem?_cons_zero, List.getElem?_cons_succ, List.nil_append, List.cons_append, reduceCtorEq, eq_self, decide_eq_false_iff_not, not_true_eq_false, not_false_eq_true, Nat.add_zero, Nat.succ_ne_self, Nat.one_ne_zero, Nat.zero_ne_one, La, Lb, Pa, Pb, beq_dec])
    by_cases c3 : a.need = b.need
    rotate_left
    · (try simp only [run, Option.map_some, Nat.reduceEqDiff, Nat.reduceAdd, Nat.zero_add, ↓reduceIte, decide_eq_true_eq, decide_true, decide_false, Bool.not_true, Bool.not_false, Bool.true_eq_false, Bool.false_eq_true, List.getElem?_cons_zero, List.getElem?_cons_succ, List.nil_append, List.cons_append, reduceCtorEq, eq_self, decide_eq_false_iff_not, not_true_eq_false, not_false_eq_true, Nat.add_zero, Nat.succ_ne_self, Nat.one_ne_zero, Nat.zero_ne_one, La, Lb, Pa, Pb, beq_dec, c3])
      exact ⟨by first | trivial | simp [c3], xb⟩
    (try simp only [run, Option.map_some, Nat.reduceEqDiff, Nat.reduceAdd, Nat.zero_add, ↓reduceIte, decide_eq_true_eq, decide_true, decide_false, Bool.not_true, Bool.not_false, Bool.true_eq_false, Bool.false_eq_true, List.getElem?_cons_zero, List.getElem?_cons_succ, List.nil_append, List.cons_append, reduceCtorEq, eq_self, decide_eq_false_iff_not, not_true_eq_false, not_false_eq_true, Nat.add_zero, Nat.succ_ne_self, Nat.one_ne_zero, Nat.zero_ne_one, La, Lb, Pa, Pb, beq_dec, c3])
    exact ⟨by first | trivial | simp [c0, c1, c2, c3], xb⟩
  by_cases k8 : a.kind = 8
  · have T2 : (a.kind = 2) = False := eq_false (by omega)
    have T3 : (a.kind = 3) = False := eq_false (by omega)
    have T4 : (a.kind = 4) = False := eq_false (by omega)
    have T5 : (a.kind = 5) = False := eq_false (by omega)
    have T7 : (a.kind = 7) = False := eq_false (by omega)
    have T8 : (a.kind = 8) = True := eq_true (by omega)
    have ef : fieldsB a b = decide (a.index = b.index ∧ a.entry = b.entry) := by unfold fieldsB; simp only [T2, T3, T4, T5, T7, T8, if_true, if_false]
    rw [ef]
    simp only [run, Option.map_some, Nat.reduceEqDiff, Nat.reduceAdd, Nat.zero_add, ↓reduceIte, decide_eq_true_eq, decide_true, decide_false, Bool.not_true, Bool.not_false, Bool.true_eq_false, Bool.false_eq_true, List.getElem?_cons_zero, List.getElem?_cons_succ, List.nil_append, List.cons_append, reduceCtorEq, eq_self, decide_eq_false_iff_not, not_true_eq_false, not_false_eq_true, Nat.add_zero, Nat.succ_ne_self, Nat.one_ne_zero, Nat.zero_ne_one, La, Lb, Pa, Pb, beq_dec, T2, T3, T4, T5, T7, T8]
    by_cases c0 : a.index = b.index
    rotate_left
    · (try simp only [run, Option.map_some, Nat.reduceEqDiff, Nat.reduceAdd, Nat.zero_add, ↓reduceIte, decide_eq_true_eq, decide_true, decide_false, Bool.not_true, Bool.not_false, Bool.true_eq_false, Bool.false_eq_true, List.getElem?_cons_zero, List.getElem?_cons_succ, List.nil_append, List.cons_append, reduceCtorEq, eq_self, decide_eq_false_iff_not, not_true_eq_false, not_false_eq_true, Nat.add_zero, Nat.succ_ne_self, Nat.one_ne_zero, Nat.zero_ne_one, La, Lb, Pa, Pb, beq_dec, c0])
      exact ⟨by first | trivial | simp [c0], xb⟩
    (try simp only [run, Option.map_some, Nat.reduceEqDiff, Nat.reduceAdd, Nat.zero_add, ↓reduceIte, decide_eq_true_eq, decide_true, decide_false, Bool.not_true, Bool.not_false, Bool.true_eq_false, Bool.false_eq_true, List.getElem?_cons_zero, List.getElem?_cons_succ, List.nil_append, List.cons_append, reduceCtorEq, eq_self, decide_eq_false_iff_not, not_true_eq_false, not_false_eq_true, Nat.add_zero, Nat.succ_ne_self, Nat.one_ne_zero, Nat.zero_ne_one, La, Lb, Pa, Pb, beq_dec, c0])
    refine use (sameE177_spec (by omega) (⟨p4, p5, p6, rfl, rk1.more (Nat.le_refl _) (by omega), rv1.more (Nat.le_refl _) (by omega), ro1.more (Nat.le_refl _) (by omega)⟩ : RepE 0 h1.next h1 _ a.entry) (⟨q4, q5, q6, rfl, rk2.more (Nat.le_refl _) (by omega), rv2.more (Nat.le_refl _) (by omega), ro2.more (Nat.le_refl _) (by omega)⟩ : RepE 0 h1.next h1 _ b.entry)) ?_
    rintro _ h2 ⟨rfl, x2⟩
    have xb2 : Ext no h.next h h2 := xb.trans x2 (by omega)
    (try simp only [run, Option.map_some, Nat.reduceEqDiff, Nat.reduceAdd, Nat.zero_add, ↓reduceIte, decide_eq_true_eq, decide_true, decide_false, Bool.not_true, Bool.not_false, Bool.true_eq_false, Bool.false_eq_true, List.getElem?_cons_zero, List.getElem?_cons_succ, List.nil_append, List.cons_append, reduceCtorEq, eq_self, decide_eq_false_iff_not, not_true_eq_false, not_false_eq_true, Nat.add_zero, Nat.succ_ne_self, Nat.one_ne_zero, Nat.zero_ne_one, La, Lb, Pa, Pb, beq_dec])
    by_cases c1 : a.entry = b.entry
    rotate_left
    · (try simp only [run, Option.map_some, Nat.reduceEqDiff, Nat.reduceAdd, Nat.zero_add, ↓reduceIte, decide_eq_true_eq, decide_true, decide_false, Bool.not_true, Bool.not_false, Bool.true_eq_false, Bool.false_eq_true, List.getElem?_cons_zero, List.getElem?_cons_succ, List.nil_append, List.cons_append, reduceCtorEq, eq_self, decide_eq_false_iff_not, not_true_eq_false, not_false_eq_true, Nat.add_zero, Nat.succ_ne_self, Nat.one_ne_zero, Nat.zero_ne_one, La, Lb, Pa, Pb, beq_dec, c1])
      exact ⟨by first | trivial | simp [c1], xb2⟩
    (try simp only [run, Option.map_some, Nat.reduceEqDiff, Nat.reduceAdd, Nat.zero_add, ↓reduceIte, decide_eq_true_eq, decide_true, decide_false, Bool.not_true, Bool.not_false, Bool.true_eq_false, Bool.false_eq_true, List.getElem?_cons_zero, List.getElem?_cons_succ, List.nil_append, List.cons_append, reduceCtorEq, eq_self, decide_eq_false_iff_not, not_true_eq_false, not_false_eq_true, Nat.add_zero, Nat.succ_ne_self, Nat.one_ne_zero, Nat.zero_ne_one, La, Lb, Pa, Pb, beq_dec, c1])
    exact ⟨by first | trivial | simp [c0, c1], xb2⟩
  have T2 : (a.kind = 2) = False := eq_false (by omega)
  have T3 : (a.kind = 3) = False := eq_false (by omega)
  have T4 : (a.kind = 4) = False := eq_false (by omega)
  have T5 : (a.kind = 5) = False := eq_false (by omega)
  have T7 : (a.kind = 7) = False := eq_false (by omega)
  have T8 : (a.kind = 8) = False := eq_false (by omega)
  have ef : fieldsB a b = true := by unfold fieldsB; simp only [T2, T3, T4, T5, T7, T8, if_false]
  rw [ef]
  simp only [run, Option.map_some, Nat.reduceEqDiff, Nat.reduceAdd, Nat.zero_add, ↓reduceIte, decide_eq_true_eq, decide_true, decide_false, Bool.not_true, Bool.not_false, Bool.true_eq_false, Bool.false_eq_true, List.getElem?_cons_zero, List.getElem?_cons_succ, List.nil_append, List.cons_append, reduceCtorEq, eq_self, decide_eq_false_iff_not, not_true_eq_false, not_false_eq_true, Nat.add_zero, Nat.succ_ne_self, Nat.one_ne_zero, Nat.zero_ne_one, La, Lb, Pa, Pb, beq_dec, T2, T3, T4, T5, T7, T8]
  exact ⟨trivial, xb⟩

theorem alike_spec (hd : 4 ≤ d) {cs ct : List Value} {a b : Msg} (ha : RepM 0 h.next h cs a) (hb : RepM 0 h.next h ct b) (hl1 : a.have_.length < n) (hl2 : a.need.length < n) (hl3 : a.have_.length ≤ 2 ^ 46) (hl4 : a.need.length ≤ 2 ^ 46) :
    ∃ v' h', aCall Try.prog n d 101 [.agg ⟨cs⟩, .agg ⟨ct⟩] h = some (v', h') ∧ v' = .bool (alikeB a b) ∧ Ext no h.next h h' := by
  obtain ⟨d, rfl, hd⟩ := depth hd
  refine call_of t101 (Nat.le_of_ble_eq_true rfl) ?_
  simp only [c101, run, Option.map_some, Nat.reduceEqDiff, Nat.reduceAdd, Nat.zero_add, ↓reduceIte, decide_eq_true_eq, decide_true, decide_false, Bool.not_true, Bool.not_false, Bool.true_eq_false, Bool.false_eq_true, List.getElem?_cons_zero, List.getElem?_cons_succ, List.nil_append, List.cons_append, reduceCtorEq, eq_self, decide_eq_false_iff_not, not_true_eq_false, not_false_eq_true, Nat.add_zero, Nat.succ_ne_self, Nat.one_ne_zero, Nat.zero_ne_one, cells_agg]
  obtain ⟨h0, eh0, x0, n0, g0⟩ := boxed h ⟨cs, 24, 0, none⟩
  rw [eh0]
  obtain ⟨h1, eh1, x1, n1, g1⟩ := boxed h0 ⟨ct, 24, 0, none⟩
  rw [eh1]
  have g01 := blk0 x1 g0 (by omega)
  have xb : Ext no h.next h h1 := x0.trans x1 (by omega)
  have ra := ha.keep xb (Nat.le_refl _)
  have rb := hb.keep xb (Nat.le_refl _)
  have Wa := ld_whole (k := 24) g01 (by decide) ra.length
  have Wb := ld_whole (k := 24) g1 (by decide) rb.length
  have ra' := ra.more (Nat.le_refl 0) (show h.next ≤ h1.next by omega)
  have rb' := rb.more (Nat.le_refl 0) (show h.next ≤ h1.next by omega)
  have FF := fields_spec (d := d) (n := n) (by omega) ra' rb' hl1 hl2 hl3 hl4
  obtain ⟨p1, p2, p3, p4, p5, p6, rfl, _⟩ := ra
  obtain ⟨q1, q2, q3, q4, q5, q6, rfl, _⟩ := rb
  have La := fun i => ld_cell (o := i) g01 (by decide)
  have Lb := fun i => ld_cell (o := i) g1 (by decide)
  unfold alikeB
  simp only [run, Option.map_some, Nat.reduceEqDiff, Nat.reduceAdd, Nat.zero_add, ↓reduceIte, decide_eq_true_eq, decide_true, decide_false, Bool.not_true, Bool.not_false, Bool.true_eq_false, Bool.false_eq_true, List.getElem?_cons_zero, List.getElem?_cons_succ, List.nil_append, List.cons_append, reduceCtorEq, eq_self, decide_eq_false_iff_not, not_true_eq_false, not_false_eq_true, Nat.add_zero, Nat.succ_ne_self, Nat.one_ne_zero, Nat.zero_ne_one, La, Lb]
  by_cases c0 : a.kind = b.kind
  rotate_left
  · simp only [run, Option.map_some, Nat.reduceEqDiff, Nat.reduceAdd, Nat.zero_add, ↓reduceIte, decide_eq_true_eq, decide_true, decide_false, Bool.not_true, Bool.not_false, Bool.true_eq_false, Bool.false_eq_true, List.getElem?_cons_zero, List.getElem?_cons_succ, List.nil_append, List.cons_append, reduceCtorEq, eq_self, decide_eq_false_iff_not, not_true_eq_false, not_false_eq_true, Nat.add_zero, Nat.succ_ne_self, Nat.one_ne_zero, Nat.zero_ne_one, La, Lb, Wa, Wb, c0]
    exact ⟨by first | trivial | simp [c0], xb⟩
  simp only [run, Option.map_some, Nat.reduceEqDiff, Nat.reduceAdd, Nat.zero_add, ↓reduceIte, decide_eq_true_eq, decide_true, decide_false, Bool.not_true, Bool.not_false, Bool.true_eq_false, Bool.false_eq_true, List.getElem?_cons_zero, List.getElem?_cons_succ, List.nil_append, List.cons_append, reduceCtorEq, eq_self, decide_eq_false_iff_not, not_true_eq_false, not_false_eq_true, Nat.add_zero, Nat.succ_ne_self, Nat.one_ne_zero, Nat.zero_ne_one, La, Lb, Wa, Wb, c0]
  by_cases c1 : a.src = b.src
  rotate_left
  · simp only [run, Option.map_some, Nat.reduceEqDiff, Nat.reduceAdd, Nat.zero_add, ↓reduceIte, decide_eq_true_eq, decide_true, decide_false, Bool.not_true, Bool.not_false, Bool.true_eq_false, Bool.false_eq_true, List.getElem?_cons_zero, List.getElem?_cons_succ, List.nil_append, List.cons_append, reduceCtorEq, eq_self, decide_eq_false_iff_not, not_true_eq_false, not_false_eq_true, Nat.add_zero, Nat.succ_ne_self, Nat.one_ne_zero, Nat.zero_ne_one, La, Lb, Wa, Wb, c1]
    exact ⟨by first | trivial | simp [c1], xb⟩
  simp only [run, Option.map_some, Nat.reduceEqDiff, Nat.reduceAdd, Nat.zero_add, ↓reduceIte, decide_eq_true_eq, decide_true, decide_false, Bool.not_true, Bool.not_false, Bool.true_eq_false, Bool.false_eq_true, List.getElem?_cons_zero, List.getElem?_cons_succ, List.nil_append, List.cons_append, reduceCtorEq, eq_self, decide_eq_false_iff_not, not_true_eq_false, not_false_eq_true, Nat.add_zero, Nat.succ_ne_self, Nat.one_ne_zero, Nat.zero_ne_one, La, Lb, Wa, Wb, c1]
  by_cases c2 : a.dst = b.dst
  rotate_left
  · simp only [run, Option.map_some, Nat.reduceEqDiff, Nat.reduceAdd, Nat.zero_add, ↓reduceIte, decide_eq_true_eq, decide_true, decide_false, Bool.not_true, Bool.not_false, Bool.true_eq_false, Bool.false_eq_true, List.getElem?_cons_zero, List.getElem?_cons_succ, List.nil_append, List.cons_append, reduceCtorEq, eq_self, decide_eq_false_iff_not, not_true_eq_false, not_false_eq_true, Nat.add_zero, Nat.succ_ne_self, Nat.one_ne_zero, Nat.zero_ne_one, La, Lb, Wa, Wb, c2]
    exact ⟨by first | trivial | simp [c2], xb⟩
  simp only [run, Option.map_some, Nat.reduceEqDiff, Nat.reduceAdd, Nat.zero_add, ↓reduceIte, decide_eq_true_eq, decide_true, decide_false, Bool.not_true, Bool.not_false, Bool.true_eq_false, Bool.false_eq_true, List.getElem?_cons_zero, List.getElem?_cons_succ, List.nil_append, List.cons_append, reduceCtorEq, eq_self, decide_eq_false_iff_not, not_true_eq_false, not_false_eq_true, Nat.add_zero, Nat.succ_ne_self, Nat.one_ne_zero, Nat.zero_ne_one, La, Lb, Wa, Wb, c2]
  by_cases c3 : a.view = b.view
  rotate_left
  · simp only [run, Option.map_some, Nat.reduceEqDiff, Nat.reduceAdd, Nat.zero_add, ↓reduceIte, decide_eq_true_eq, decide_true, decide_false, Bool.not_true, Bool.not_false, Bool.true_eq_false, Bool.false_eq_true, List.getElem?_cons_zero, List.getElem?_cons_succ, List.nil_append, List.cons_append, reduceCtorEq, eq_self, decide_eq_false_iff_not, not_true_eq_false, not_false_eq_true, Nat.add_zero, Nat.succ_ne_self, Nat.one_ne_zero, Nat.zero_ne_one, La, Lb, Wa, Wb, c3]
    exact ⟨by first | trivial | simp [c3], xb⟩
  simp only [run, Option.map_some, Nat.reduceEqDiff, Nat.reduceAdd, Nat.zero_add, ↓reduceIte, decide_eq_true_eq, decide_true, decide_false, Bool.not_true, Bool.not_false, Bool.true_eq_false, Bool.false_eq_true, List.getElem?_cons_zero, List.getElem?_cons_succ, List.nil_append, List.cons_append, reduceCtorEq, eq_self, decide_eq_false_iff_not, not_true_eq_false, not_false_eq_true, Nat.add_zero, Nat.succ_ne_self, Nat.one_ne_zero, Nat.zero_ne_one, La, Lb, Wa, Wb, c3]
  rw [← c0, ← c1, ← c2, ← c3] at FF ⊢
  refine use FF ?_
  rintro _ h2 ⟨rfl, x2⟩
  simp only [run, Option.map_some, Nat.reduceEqDiff, Nat.reduceAdd, Nat.zero_add, ↓reduceIte, decide_eq_true_eq, decide_true, decide_false, Bool.not_true, Bool.not_false, Bool.true_eq_false, Bool.false_eq_true, List.getElem?_cons_zero, List.getElem?_cons_succ, List.nil_append, List.cons_append, reduceCtorEq, eq_self, decide_eq_false_iff_not, not_true_eq_false, not_false_eq_true, Nat.add_zero, Nat.succ_ne_self, Nat.one_ne_zero, Nat.zero_ne_one]
  exact ⟨by simp, xb.trans x2 (by omega)⟩

end Go.Proofs.Ytapmpenkceomdaa
/- Messages as bytes, and back: the program's Encode and Decode. -/
set_option linter.unusedSimpArgs false
set_option linter.unusedVariables false
set_option maxRecDepth 20000
namespace Go.Proofs.Ytapmpenkceomdaa
open Go.Ab

variable {n d : Nat} {h : AHeap}

theorem tailB_len (m : Msg) (hs : m.data.length ≤ 2 ^ 42 ∧ m.have_.length ≤ 2 ^ 38 ∧ m.need.length ≤ 2 ^ 38 ∧ m.entry.len ≤ 2 ^ 42) : (msgB m).length ≤ 2 ^ 44 := by
  obtain ⟨h1, h2, h3, h4⟩ := hs
  unfold Entry.len at h4
  have q0 := numsB_len [m.kind, m.src, m.dst, m.view]
  have q1 := numsB_len [m.inst, m.len, if m.has then 1 else 0]
  have q2 := numsB_len [m.members, m.source, m.len]
  have q3 := numsB_len [m.place]
  have q4 := numsB_len [m.place, m.total]
  have q5 := numsB_len [m.hop, m.seq]
  have q6 := numsB_len [m.index]
  have q7 := numsB_len m.have_
  have q8 := numsB_len m.need
  have q9 := vnum_len10 m.have_.length (by omega)
  have q10 := vnum_len10 m.need.length (by omega)
  have q11 := vbytes_len m.data (by omega)
  have q12 := vbytes_len m.entry.key (by omega)
  have q13 := vbytes_len m.entry.val (by omega)
  have q14 := vbytes_len m.entry.old (by omega)
  have q15 := vnum_held m.entry.sess
  have q16 := vnum_held m.entry.seq
  have q17 := vnum_held m.entry.kind
  have q18 := vnum_held m.entry.who
  unfold msgB tailB
  rw [putEntry_eq]
  generalize (if m.has = true then (1 : Int) else 0) = z at *
  simp only [List.length_cons, List.length_nil] at q0 q1 q2 q3 q4 q5 q6
  (repeat' split) <;> simp only [List.length_append, List.length_nil] <;> omega

/-- a message's bytes, or none: the program's answer -/
def encP (m : Msg) : List UInt8 := if beyondB m then [] else if (readM (msgB m)).2 && alikeB (readM (msgB m)).1 m then msgB m else []

theorem readM_small (l : List UInt8) : (readM l).1.have_.length ≤ 64 ∧ (readM l).1.need.length ≤ 64 := by
  have rl : ∀ (top : Int) (s : Option (List UInt8)), top ≤ 64 → (rdRow top s).1.length ≤ 64 := by
    intro top s ht
    have := rdNum_le top s
    rcases e : rdNum top s with ⟨k, s1⟩
    rw [e] at this
    simp only [heldN] at this
    simp only [rdRow, e, rdTimes_len]
    omega
  have body : ∀ (m : Msg) (s : Option (List UInt8)), m.have_ = [] → m.need = [] → (rdBody m s).1.have_.length ≤ 64 ∧ (rdBody m s).1.need.length ≤ 64 := by
    intro m s h1 h2
    unfold rdBody
    by_cases k7 : m.kind = 7
    · have r2 := rl 7 (rdNum 1099511627776 (rdNum 1099511627776 s).2).2 (by decide)
      have r3 := rl 8 (rdRow 7 (rdNum 1099511627776 (rdNum 1099511627776 s).2).2).2 (by decide)
      simp only [k7, show ((7 : Int) = 2) = False from eq_false (by decide), show ((7 : Int) = 3) = False from eq_false (by decide), show ((7 : Int) = 4) = False from eq_false (by decide), show ((7 : Int) = 5) = False from eq_false (by decide), if_true, if_false]
      exact ⟨r2, r3⟩
    · simp only [k7, if_false]
      (repeat' split) <;> simp [h1, h2]
  unfold readM rdMsg
  have b := body { zeroM with kind := (rdNum 8 (some l)).1, src := (rdNum 6 (rdNum 8 (some l)).2).1, dst := (rdNum 6 (rdNum 6 (rdNum 8 (some l)).2).2).1, view := (rdNum 1099511627776 (rdNum 6 (rdNum 6 (rdNum 8 (some l)).2).2).2).1 } (rdNum 1099511627776 (rdNum 6 (rdNum 6 (rdNum 8 (some l)).2).2).2).2 rfl rfl
  simp only
  split
  · simp [zeroM]
  · exact b

theorem enc_spec (hd : 6 ≤ d) (hn : 100 ≤ n) {cs : List Value} {m : Msg} (hm : RepM 0 h.next h cs m) (hs : smallM n m) :
    ∃ v' h', aCall Try.prog n d 50 [.agg ⟨cs⟩] h = some (v', h') ∧ Ext no h.next h h' ∧ OwnB h.next h' v' (encP m) := by
  obtain ⟨d, rfl, hd⟩ := depth hd
  have hs' := hs
  obtain ⟨s1, s2, s3, s4, s5, s6⟩ := hs
  refine call_of t50 (Nat.le_of_ble_eq_true rfl) ?_
  simp only [c50, run, Option.map_some, Nat.reduceEqDiff, Nat.reduceAdd, Nat.zero_add, ↓reduceIte, decide_eq_true_eq, decide_true, decide_false, Bool.not_true, Bool.not_false, Bool.true_eq_false, Bool.false_eq_true, List.getElem?_cons_zero, List.getElem?_cons_succ, List.nil_append, List.cons_append, reduceCtorEq, eq_self, decide_eq_false_iff_not, not_true_eq_false, not_false_eq_true, Nat.add_zero, Nat.succ_ne_self, Nat.one_ne_zero, Nat.zero_ne_one, cells_agg]
  obtain ⟨h0, eh0, x0, n0, g0⟩ := boxed h ⟨cs, 24, 0, none⟩
  rw [eh0]
  have rm0 := (hm.keep x0 (Nat.le_refl _)).more (Nat.le_refl 0) (show h.next ≤ h0.next by omega)
  have W0 := ld_whole (k := 24) g0 (by decide) hm.length
  simp only [run, Option.map_some, Nat.reduceEqDiff, Nat.reduceAdd, Nat.zero_add, ↓reduceIte, decide_eq_true_eq, decide_true, decide_false, Bool.not_true, Bool.not_false, Bool.true_eq_false, Bool.false_eq_true, List.getElem?_cons_zero, List.getElem?_cons_succ, List.nil_append, List.cons_append, reduceCtorEq, eq_self, decide_eq_false_iff_not, not_true_eq_false, not_false_eq_true, Nat.add_zero, Nat.succ_ne_self, Nat.one_ne_zero, Nat.zero_ne_one, W0]
  refine use (beyond_spec (by omega) rm0) ?_
  rintro _ h1 ⟨rfl, x1⟩
  have n1 := x1.next
  unfold encP
  cases hbe : beyondB m with
  | true =>
    simp only [run, Option.map_some, Nat.reduceEqDiff, Nat.reduceAdd, Nat.zero_add, ↓reduceIte, decide_eq_true_eq, decide_true, decide_false, Bool.not_true, Bool.not_false, Bool.true_eq_false, Bool.false_eq_true, List.getElem?_cons_zero, List.getElem?_cons_succ, List.nil_append, List.cons_append, reduceCtorEq, eq_self, decide_eq_false_iff_not, not_true_eq_false, not_false_eq_true, Nat.add_zero, Nat.succ_ne_self, Nat.one_ne_zero, Nat.zero_ne_one, if_true]
    exact ⟨x0.trans x1 (by omega), Own.nil⟩
  | false =>
    have g1 := blk0 x1 g0 (by omega)
    have W1 := ld_whole (k := 24) g1 (by decide) hm.length
    have rm1 := (rm0.keep x1 (Nat.le_refl _)).more (Nat.le_refl 0) (show h0.next ≤ h1.next by omega)
    simp only [run, Option.map_some, Nat.reduceEqDiff, Nat.reduceAdd, Nat.zero_add, ↓reduceIte, decide_eq_true_eq, decide_true, decide_false, Bool.not_true, Bool.not_false, Bool.true_eq_false, Bool.false_eq_true, List.getElem?_cons_zero, List.getElem?_cons_succ, List.nil_append, List.cons_append, reduceCtorEq, eq_self, decide_eq_false_iff_not, not_true_eq_false, not_false_eq_true, Nat.add_zero, Nat.succ_ne_self, Nat.one_ne_zero, Nat.zero_ne_one, W1]
    refine use (write_spec (by omega) (by omega) rm1 hs') ?_
    rintro v2 h2 ⟨x2, o2⟩
    have n2 := x2.next
    have hml := tailB_len m ⟨by omega, by omega, by omega, s6⟩
    (try simp only [run, Option.map_some, Nat.reduceEqDiff, Nat.reduceAdd, Nat.zero_add, ↓reduceIte, decide_eq_true_eq, decide_true, decide_false, Bool.not_true, Bool.not_false, Bool.true_eq_false, Bool.false_eq_true, List.getElem?_cons_zero, List.getElem?_cons_succ, List.nil_append, List.cons_append, reduceCtorEq, eq_self, decide_eq_false_iff_not, not_true_eq_false, not_false_eq_true, Nat.add_zero, Nat.succ_ne_self, Nat.one_ne_zero, Nat.zero_ne_one])
    refine use (read100_spec (by omega) hn (o2.sl.more (Nat.zero_le _) (Nat.le_refl _)) (by omega)) ?_
    rintro _ h3 ⟨x3, ct, rfl, rt⟩
    have n3 := x3.next
    have o3 := o2.keep x3 (Nat.le_refl _)
    simp only [run, Option.map_some, Nat.reduceEqDiff, Nat.reduceAdd, Nat.zero_add, ↓reduceIte, decide_eq_true_eq, decide_true, decide_false, Bool.not_true, Bool.not_false, Bool.true_eq_false, Bool.false_eq_true, List.getElem?_cons_zero, List.getElem?_cons_succ, List.nil_append, List.cons_append, reduceCtorEq, eq_self, decide_eq_false_iff_not, not_true_eq_false, not_false_eq_true, Nat.add_zero, Nat.succ_ne_self, Nat.one_ne_zero, Nat.zero_ne_one, ext_t]
    obtain ⟨h4, eh4, x4, n4, g4⟩ := boxed h3 ⟨[.int .i64 0, .int .i64 0, .int .i64 0, .int .i64 0, .int .i64 0, .int .i64 0, .bool false, .int .i64 0, .int .i64 0, .int .i64 0, .int .i64 0, .slice none 0 0, .int .i64 0, .int .i64 0, .slice none 0 0, .slice none 0 0, .int .i64 0, .int .i64 0, .int .i64 0, .int .i64 0, .int .i64 0, .slice none 0 0, .slice none 0 0, .slice none 0 0], 24, 0, none⟩
    rw [eh4]
    obtain ⟨h5, eh5, n5, x5, g5⟩ := stoW (k := 24) g4 rt.length rfl rt.cells rt.ne
    have rt5 := (rt.keep x4 (Nat.le_refl _)).ext x5 (by omega) (fun m h1 h2 (e : m = h3.next) => by omega)
    have x25 : Ext no h2.next h2 h5 := (x3.trans x4 (by omega)).then x5 (by omega) (fun m hm (e : m = h3.next) => by omega)
    have x15 : Ext no h1.next h1 h5 := x2.trans x25 (by omega)
    have o5 := o2.keep x25 (Nat.le_refl _)
    have xb : Ext no h.next h h5 := (x0.trans x1 (by omega)).trans x15 (by omega)
    simp only [run, Option.map_some, Nat.reduceEqDiff, Nat.reduceAdd, Nat.zero_add, ↓reduceIte, decide_eq_true_eq, decide_true, decide_false, Bool.not_true, Bool.not_false, Bool.true_eq_false, Bool.false_eq_true, List.getElem?_cons_zero, List.getElem?_cons_succ, List.nil_append, List.cons_append, reduceCtorEq, eq_self, decide_eq_false_iff_not, not_true_eq_false, not_false_eq_true, Nat.add_zero, Nat.succ_ne_self, Nat.one_ne_zero, Nat.zero_ne_one, eh5]
    obtain ⟨r1, r2⟩ := readM_small (msgB m)
    cases hok : (readM (msgB m)).2 with
    | false =>
      simp only [run, Option.map_some, Nat.reduceEqDiff, Nat.reduceAdd, Nat.zero_add, ↓reduceIte, decide_eq_true_eq, decide_true, decide_false, Bool.not_true, Bool.not_false, Bool.true_eq_false, Bool.false_eq_true, List.getElem?_cons_zero, List.getElem?_cons_succ, List.nil_append, List.cons_append, reduceCtorEq, eq_self, decide_eq_false_iff_not, not_true_eq_false, not_false_eq_true, Nat.add_zero, Nat.succ_ne_self, Nat.one_ne_zero, Nat.zero_ne_one, hok, Bool.false_and, if_false]
      exact ⟨xb, Own.nil⟩
    | true =>
      have W5 := ld_whole (k := 24) g5 (by decide) rt.length
      have W5' := ld_whole (k := 24) (blk0 x15 g1 (by omega)) (by decide) hm.length
      simp only [run, Option.map_some, Nat.reduceEqDiff, Nat.reduceAdd, Nat.zero_add, ↓reduceIte, decide_eq_true_eq, decide_true, decide_false, Bool.not_true, Bool.not_false, Bool.true_eq_false, Bool.false_eq_true, List.getElem?_cons_zero, List.getElem?_cons_succ, List.nil_append, List.cons_append, reduceCtorEq, eq_self, decide_eq_false_iff_not, not_true_eq_false, not_false_eq_true, Nat.add_zero, Nat.succ_ne_self, Nat.one_ne_zero, Nat.zero_ne_one, hok, W5, W5']
      refine use (alike_spec (by omega) (rt5.more (Nat.zero_le _) (by omega)) ((rm1.keep x15 (Nat.le_refl _)).more (Nat.zero_le _) (by omega)) (by omega) (by omega) (by omega) (by omega)) ?_
      rintro _ h6 ⟨rfl, x6⟩
      have o6 := o5.keep x6 (Nat.le_refl _)
      cases hal : alikeB (readM (msgB m)).1 m with
      | false =>
        simp only [run, Option.map_some, Nat.reduceEqDiff, Nat.reduceAdd, Nat.zero_add, ↓reduceIte, decide_eq_true_eq, decide_true, decide_false, Bool.not_true, Bool.not_false, Bool.true_eq_false, Bool.false_eq_true, List.getElem?_cons_zero, List.getElem?_cons_succ, List.nil_append, List.cons_append, reduceCtorEq, eq_self, decide_eq_false_iff_not, not_true_eq_false, not_false_eq_true, Nat.add_zero, Nat.succ_ne_self, Nat.one_ne_zero, Nat.zero_ne_one, hok, hal, Bool.and_false, if_false]
        exact ⟨xb.trans x6 (by omega), Own.nil⟩
      | true =>
        simp only [run, Option.map_some, Nat.reduceEqDiff, Nat.reduceAdd, Nat.zero_add, ↓reduceIte, decide_eq_true_eq, decide_true, decide_false, Bool.not_true, Bool.not_false, Bool.true_eq_false, Bool.false_eq_true, List.getElem?_cons_zero, List.getElem?_cons_succ, List.nil_append, List.cons_append, reduceCtorEq, eq_self, decide_eq_false_iff_not, not_true_eq_false, not_false_eq_true, Nat.add_zero, Nat.succ_ne_self, Nat.one_ne_zero, Nat.zero_ne_one, hok, hal, Bool.and_self, if_true]
        exact ⟨xb.trans x6 (by omega), o6.less (by omega)⟩

end Go.Proofs.Ytapmpenkceomdaa
/- Messages: Decode, Same; frames: Wrap, Open. -/
set_option linter.unusedSimpArgs false
set_option linter.unusedVariables false
set_option maxRecDepth 20000
namespace Go.Proofs.Ytapmpenkceomdaa
open Go.Ab

variable {n d : Nat} {h : AHeap}

theorem decM_eq (l : List UInt8) : decM l = if (readM l).2 then ((readM l).1, true) else (zeroM, false) := by
  unfold decM readM
  rcases rdMsg (some l) with ⟨m, s⟩
  simp only
  by_cases hk : m.kind = 0
  · simp [hk]
  · simp only [hk, if_false]
    by_cases hs : s = some []
    · simp [hs]
    · simp [hs]
theorem rep_zero {lo hi : Nat} : RepM lo hi h [.int .i64 0, .int .i64 0, .int .i64 0, .int .i64 0, .int .i64 0, .int .i64 0, .bool false, .int .i64 0, .int .i64 0, .int .i64 0, .int .i64 0, .slice none 0 0, .int .i64 0, .int .i64 0, .slice none 0 0, .slice none 0 0, .int .i64 0, .int .i64 0, .int .i64 0, .int .i64 0, .int .i64 0, .slice none 0 0, .slice none 0 0, .slice none 0 0] zeroM := ⟨_, _, _, _, _, _, rfl, Sl.nil, Sl.nil, Sl.nil, Sl.nil, Sl.nil, Sl.nil⟩

theorem dec_spec (hd : 6 ≤ d) (hn : 100 ≤ n) {v : Value} {l : List UInt8} (hv : Bytes 0 h.next h v l) (hl : l.length ≤ 2 ^ 45) :
    ∃ v' h', aCall Try.prog n d 51 [v] h = some (v', h') ∧ Ext no h.next h h' ∧ ∃ cs, v' = .tuple ⟨[.agg ⟨cs⟩, .bool (decM l).2]⟩ ∧ RepM h.next h'.next h' cs (decM l).1 := by
  obtain ⟨d, rfl, hd⟩ := depth hd
  rw [decM_eq]
  refine call_of t51 (Nat.le_of_ble_eq_true rfl) ?_
  simp only [c51, run, Option.map_some, Nat.reduceEqDiff, Nat.reduceAdd, Nat.zero_add, ↓reduceIte, decide_eq_true_eq, decide_true, decide_false, Bool.not_true, Bool.not_false, Bool.true_eq_false, Bool.false_eq_true, List.getElem?_cons_zero, List.getElem?_cons_succ, List.nil_append, List.cons_append, reduceCtorEq, eq_self, decide_eq_false_iff_not, not_true_eq_false, not_false_eq_true, Nat.add_zero, Nat.succ_ne_self, Nat.one_ne_zero, Nat.zero_ne_one]
  obtain ⟨h0, eh0, x0, n0, gR0⟩ := boxed h ⟨[.int .i64 0, .int .i64 0, .int .i64 0, .int .i64 0, .int .i64 0, .int .i64 0, .bool false, .int .i64 0, .int .i64 0, .int .i64 0, .int .i64 0, .slice none 0 0, .int .i64 0, .int .i64 0, .slice none 0 0, .slice none 0 0, .int .i64 0, .int .i64 0, .int .i64 0, .int .i64 0, .int .i64 0, .slice none 0 0, .slice none 0 0, .slice none 0 0], 24, 0, none⟩
  rw [eh0]
  refine use (read100_spec (by omega) hn ((hv.keep x0 (Nat.le_refl _)).more (Nat.le_refl _) (by omega)) hl) ?_
  rintro _ h1 ⟨x1, ct, rfl, rt⟩
  have n1 := x1.next
  have gR1 := blk0 x1 gR0 (by omega)
  simp only [run, Option.map_some, Nat.reduceEqDiff, Nat.reduceAdd, Nat.zero_add, ↓reduceIte, decide_eq_true_eq, decide_true, decide_false, Bool.not_true, Bool.not_false, Bool.true_eq_false, Bool.false_eq_true, List.getElem?_cons_zero, List.getElem?_cons_succ, List.nil_append, List.cons_append, reduceCtorEq, eq_self, decide_eq_false_iff_not, not_true_eq_false, not_false_eq_true, Nat.add_zero, Nat.succ_ne_self, Nat.one_ne_zero, Nat.zero_ne_one, ext_t]
  obtain ⟨h2, eh2, x2, n2, g2⟩ := boxed h1 ⟨[.int .i64 0, .int .i64 0, .int .i64 0, .int .i64 0, .int .i64 0, .int .i64 0, .bool false, .int .i64 0, .int .i64 0, .int .i64 0, .int .i64 0, .slice none 0 0, .int .i64 0, .int .i64 0, .slice none 0 0, .slice none 0 0, .int .i64 0, .int .i64 0, .int .i64 0, .int .i64 0, .int .i64 0, .slice none 0 0, .slice none 0 0, .slice none 0 0], 24, 0, none⟩
  rw [eh2]
  obtain ⟨h3, eh3, n3, x3, g3⟩ := stoW (k := 24) g2 rt.length rfl rt.cells rt.ne
  have gR3 := blk x3 (blk0 x2 gR1 (by omega)) (by omega) (show ¬ h.next = h1.next by omega)
  have rt3 := (rt.keep x2 (Nat.le_refl _)).ext x3 (by omega) (fun m j1 j2 (e : m = h1.next) => by omega)
  have xb : Ext no h.next h h3 := ((x0.trans x1 (by omega)).trans x2 (by omega)).then x3 (by omega) (fun m hm (e : m = h1.next) => by omega)
  simp only [run, Option.map_some, Nat.reduceEqDiff, Nat.reduceAdd, Nat.zero_add, ↓reduceIte, decide_eq_true_eq, decide_true, decide_false, Bool.not_true, Bool.not_false, Bool.true_eq_false, Bool.false_eq_true, List.getElem?_cons_zero, List.getElem?_cons_succ, List.nil_append, List.cons_append, reduceCtorEq, eq_self, decide_eq_false_iff_not, not_true_eq_false, not_false_eq_true, Nat.add_zero, Nat.succ_ne_self, Nat.one_ne_zero, Nat.zero_ne_one, eh3]
  cases hok : (readM l).2 with
  | false =>
    simp only [run, Option.map_some, Nat.reduceEqDiff, Nat.reduceAdd, Nat.zero_add, ↓reduceIte, decide_eq_true_eq, decide_true, decide_false, Bool.not_true, Bool.not_false, Bool.true_eq_false, Bool.false_eq_true, List.getElem?_cons_zero, List.getElem?_cons_succ, List.nil_append, List.cons_append, reduceCtorEq, eq_self, decide_eq_false_iff_not, not_true_eq_false, not_false_eq_true, Nat.add_zero, Nat.succ_ne_self, Nat.one_ne_zero, Nat.zero_ne_one, hok]
    refine use1 (v := [.int .i64 0, .int .i64 0, .int .i64 0, .int .i64 0, .int .i64 0, .int .i64 0, .bool false, .int .i64 0, .int .i64 0, .int .i64 0, .int .i64 0, .slice none 0 0, .int .i64 0, .int .i64 0, .slice none 0 0, .slice none 0 0, .int .i64 0, .int .i64 0, .int .i64 0, .int .i64 0, .int .i64 0, .slice none 0 0, .slice none 0 0, .slice none 0 0]) rfl ?_
    (try simp only [run, Option.map_some, Nat.reduceEqDiff, Nat.reduceAdd, Nat.zero_add, ↓reduceIte, decide_eq_true_eq, decide_true, decide_false, Bool.not_true, Bool.not_false, Bool.true_eq_false, Bool.false_eq_true, List.getElem?_cons_zero, List.getElem?_cons_succ, List.nil_append, List.cons_append, reduceCtorEq, eq_self, decide_eq_false_iff_not, not_true_eq_false, not_false_eq_true, Nat.add_zero, Nat.succ_ne_self, Nat.one_ne_zero, Nat.zero_ne_one])
    obtain ⟨h4, eh4, n4, x4, g4⟩ := stoW (k := 24) (vs := [.int .i64 0, .int .i64 0, .int .i64 0, .int .i64 0, .int .i64 0, .int .i64 0, .bool false, .int .i64 0, .int .i64 0, .int .i64 0, .int .i64 0, .slice none 0 0, .int .i64 0, .int .i64 0, .slice none 0 0, .slice none 0 0, .int .i64 0, .int .i64 0, .int .i64 0, .int .i64 0, .int .i64 0, .slice none 0 0, .slice none 0 0, .slice none 0 0]) gR3 rfl rfl rfl (by simp)
    simp only [run, Option.map_some, Nat.reduceEqDiff, Nat.reduceAdd, Nat.zero_add, ↓reduceIte, decide_eq_true_eq, decide_true, decide_false, Bool.not_true, Bool.not_false, Bool.true_eq_false, Bool.false_eq_true, List.getElem?_cons_zero, List.getElem?_cons_succ, List.nil_append, List.cons_append, reduceCtorEq, eq_self, decide_eq_false_iff_not, not_true_eq_false, not_false_eq_true, Nat.add_zero, Nat.succ_ne_self, Nat.one_ne_zero, Nat.zero_ne_one, eh4, ld_whole (k := 24) g4 (by decide) rfl]
    exact ⟨xb.then x4 xb.next (fun m hm (e : m = h.next) => by omega), _, (by first | rfl | trivial), rep_zero⟩
  | true =>
    simp only [run, Option.map_some, Nat.reduceEqDiff, Nat.reduceAdd, Nat.zero_add, ↓reduceIte, decide_eq_true_eq, decide_true, decide_false, Bool.not_true, Bool.not_false, Bool.true_eq_false, Bool.false_eq_true, List.getElem?_cons_zero, List.getElem?_cons_succ, List.nil_append, List.cons_append, reduceCtorEq, eq_self, decide_eq_false_iff_not, not_true_eq_false, not_false_eq_true, Nat.add_zero, Nat.succ_ne_self, Nat.one_ne_zero, Nat.zero_ne_one, hok, ld_whole (k := 24) g3 (by decide) rt.length]
    obtain ⟨h4, eh4, n4, x4, g4⟩ := stoW (k := 24) gR3 rt.length rfl rt.cells rt.ne
    simp only [run, Option.map_some, Nat.reduceEqDiff, Nat.reduceAdd, Nat.zero_add, ↓reduceIte, decide_eq_true_eq, decide_true, decide_false, Bool.not_true, Bool.not_false, Bool.true_eq_false, Bool.false_eq_true, List.getElem?_cons_zero, List.getElem?_cons_succ, List.nil_append, List.cons_append, reduceCtorEq, eq_self, decide_eq_false_iff_not, not_true_eq_false, not_false_eq_true, Nat.add_zero, Nat.succ_ne_self, Nat.one_ne_zero, Nat.zero_ne_one, eh4, ld_whole (k := 24) g4 (by decide) rt.length, if_true]
    exact ⟨xb.then x4 xb.next (fun m hm (e : m = h.next) => by omega), _, (by first | rfl | trivial), (rt3.ext x4 (by omega) (fun m h1 h2 (e : m = h.next) => by omega)).more (by omega) (by omega)⟩

theorem wrap_spec (hd : 7 ≤ d) (hn : 100 ≤ n) {cs : List Value} {m : Msg} (hm : RepM 0 h.next h cs m) (hs : smallM n m) (hl : (encP m).length < n) :
    ∃ v' h', aCall Try.prog n d 67 [.agg ⟨cs⟩] h = some (v', h') ∧ Ext no h.next h h' ∧ OwnB h.next h' v' (if encP m = [] then [] else four (encP m)) := by
  obtain ⟨d, rfl, hd⟩ := depth hd
  have hml : (encP m).length ≤ 2 ^ 44 := by
    have := tailB_len m ⟨by have := hs.1; omega, by have := hs.2.1; omega, by have := hs.2.2.1; omega, hs.2.2.2.2.2⟩
    unfold encP; (repeat' split) <;> simp <;> omega
  refine call_of t67 (Nat.le_of_ble_eq_true rfl) ?_
  simp only [c67, run, Option.map_some, Nat.reduceEqDiff, Nat.reduceAdd, Nat.zero_add, ↓reduceIte, decide_eq_true_eq, decide_true, decide_false, Bool.not_true, Bool.not_false, Bool.true_eq_false, Bool.false_eq_true, List.getElem?_cons_zero, List.getElem?_cons_succ, List.nil_append, List.cons_append, reduceCtorEq, eq_self, decide_eq_false_iff_not, not_true_eq_false, not_false_eq_true, Nat.add_zero, Nat.succ_ne_self, Nat.one_ne_zero, Nat.zero_ne_one, cells_agg]
  obtain ⟨h0, eh0, x0, n0, g0⟩ := boxed h ⟨cs, 24, 0, none⟩
  rw [eh0]
  have rm0 := (hm.keep x0 (Nat.le_refl _)).more (Nat.le_refl 0) (show h.next ≤ h0.next by omega)
  have W0 := ld_whole (k := 24) g0 (by decide) hm.length
  simp only [run, Option.map_some, Nat.reduceEqDiff, Nat.reduceAdd, Nat.zero_add, ↓reduceIte, decide_eq_true_eq, decide_true, decide_false, Bool.not_true, Bool.not_false, Bool.true_eq_false, Bool.false_eq_true, List.getElem?_cons_zero, List.getElem?_cons_succ, List.nil_append, List.cons_append, reduceCtorEq, eq_self, decide_eq_false_iff_not, not_true_eq_false, not_false_eq_true, Nat.add_zero, Nat.succ_ne_self, Nat.one_ne_zero, Nat.zero_ne_one, W0]
  refine use (enc_spec (by omega) hn rm0 hs) ?_
  rintro v1 h1 ⟨x1, o1⟩
  have n1 := x1.next
  simp only [run, Option.map_some, Nat.reduceEqDiff, Nat.reduceAdd, Nat.zero_add, ↓reduceIte, decide_eq_true_eq, decide_true, decide_false, Bool.not_true, Bool.not_false, Bool.true_eq_false, Bool.false_eq_true, List.getElem?_cons_zero, List.getElem?_cons_succ, List.nil_append, List.cons_append, reduceCtorEq, eq_self, decide_eq_false_iff_not, not_true_eq_false, not_false_eq_true, Nat.add_zero, Nat.succ_ne_self, Nat.one_ne_zero, Nat.zero_ne_one, lenB o1.sl]
  by_cases he : encP m = []
  · have hc : (((encP m).length : Nat) : Int) = 0 := by rw [he]; rfl
    simp only [run, Option.map_some, Nat.reduceEqDiff, Nat.reduceAdd, Nat.zero_add, ↓reduceIte, decide_eq_true_eq, decide_true, decide_false, Bool.not_true, Bool.not_false, Bool.true_eq_false, Bool.false_eq_true, List.getElem?_cons_zero, List.getElem?_cons_succ, List.nil_append, List.cons_append, reduceCtorEq, eq_self, decide_eq_false_iff_not, not_true_eq_false, not_false_eq_true, Nat.add_zero, Nat.succ_ne_self, Nat.one_ne_zero, Nat.zero_ne_one, hc, if_pos he]
    exact ⟨x0.trans x1 (by omega), Own.nil⟩
  · have hc : ¬ (((encP m).length : Nat) : Int) = 0 := by
      have := List.length_pos_iff.2 he; omega
    simp only [run, Option.map_some, Nat.reduceEqDiff, Nat.reduceAdd, Nat.zero_add, ↓reduceIte, decide_eq_true_eq, decide_true, decide_false, Bool.not_true, Bool.not_false, Bool.true_eq_false, Bool.false_eq_true, List.getElem?_cons_zero, List.getElem?_cons_succ, List.nil_append, List.cons_append, reduceCtorEq, eq_self, decide_eq_false_iff_not, not_true_eq_false, not_false_eq_true, Nat.add_zero, Nat.succ_ne_self, Nat.one_ne_zero, Nat.zero_ne_one, hc, if_neg he]
    refine use (four114_spec (by omega) (by omega) (o1.sl.more (Nat.zero_le _) (Nat.le_refl _)) hl (by omega)) ?_
    rintro v2 h2 ⟨x2, o2⟩
    simp only [run, Option.map_some, Nat.reduceEqDiff, Nat.reduceAdd, Nat.zero_add, ↓reduceIte, decide_eq_true_eq, decide_true, decide_false, Bool.not_true, Bool.not_false, Bool.true_eq_false, Bool.false_eq_true, List.getElem?_cons_zero, List.getElem?_cons_succ, List.nil_append, List.cons_append, reduceCtorEq, eq_self, decide_eq_false_iff_not, not_true_eq_false, not_false_eq_true, Nat.add_zero, Nat.succ_ne_self, Nat.one_ne_zero, Nat.zero_ne_one, if_neg he]
    exact ⟨(x0.trans x1 (by omega)).trans x2 (by omega), o2.less (by omega)⟩

def openM (l : List UInt8) : Msg × Bool := if isSound l && (decM (l.drop 4)).2 then ((decM (l.drop 4)).1, true) else (zeroM, false)

theorem open_spec (hd : 7 ≤ d) (hn : 100 ≤ n) {v : Value} {l : List UInt8} (hv : Bytes 0 h.next h v l) (hl : l.length ≤ 2 ^ 45) (hln : l.length < n) :
    ∃ v' h', aCall Try.prog n d 68 [v] h = some (v', h') ∧ Ext no h.next h h' ∧ ∃ cs, v' = .tuple ⟨[.agg ⟨cs⟩, .bool (openM l).2]⟩ ∧ RepM h.next h'.next h' cs (openM l).1 := by
  obtain ⟨d, rfl, hd⟩ := depth hd
  unfold openM
  refine call_of t68 (Nat.le_of_ble_eq_true rfl) ?_
  simp only [c68, run, Option.map_some, Nat.reduceEqDiff, Nat.reduceAdd, Nat.zero_add, ↓reduceIte, decide_eq_true_eq, decide_true, decide_false, Bool.not_true, Bool.not_false, Bool.true_eq_false, Bool.false_eq_true, List.getElem?_cons_zero, List.getElem?_cons_succ, List.nil_append, List.cons_append, reduceCtorEq, eq_self, decide_eq_false_iff_not, not_true_eq_false, not_false_eq_true, Nat.add_zero, Nat.succ_ne_self, Nat.one_ne_zero, Nat.zero_ne_one]
  obtain ⟨h0, eh0, x0, n0, gR0⟩ := boxed h ⟨[.int .i64 0, .int .i64 0, .int .i64 0, .int .i64 0, .int .i64 0, .int .i64 0, .bool false, .int .i64 0, .int .i64 0, .int .i64 0, .int .i64 0, .slice none 0 0, .int .i64 0, .int .i64 0, .slice none 0 0, .slice none 0 0, .int .i64 0, .int .i64 0, .int .i64 0, .int .i64 0, .int .i64 0, .slice none 0 0, .slice none 0 0, .slice none 0 0], 24, 0, none⟩
  rw [eh0]
  refine use (sound_spec (by omega) (by omega) (hv.keep x0 (Nat.le_refl _)) hln (by omega)) ?_
  rintro _ h1 ⟨rfl, x, rfl, hx⟩
  simp only [run, Option.map_some, Nat.reduceEqDiff, Nat.reduceAdd, Nat.zero_add, ↓reduceIte, decide_eq_true_eq, decide_true, decide_false, Bool.not_true, Bool.not_false, Bool.true_eq_false, Bool.false_eq_true, List.getElem?_cons_zero, List.getElem?_cons_succ, List.nil_append, List.cons_append, reduceCtorEq, eq_self, decide_eq_false_iff_not, not_true_eq_false, not_false_eq_true, Nat.add_zero, Nat.succ_ne_self, Nat.one_ne_zero, Nat.zero_ne_one, ext_t]
  refine use (dec_spec (by omega) hn (hx.more (Nat.le_refl _) (by omega)) (by simp; omega)) ?_
  rintro _ h2 ⟨x2, ct, rfl, rt⟩
  have n2 := x2.next
  simp only [run, Option.map_some, Nat.reduceEqDiff, Nat.reduceAdd, Nat.zero_add, ↓reduceIte, decide_eq_true_eq, decide_true, decide_false, Bool.not_true, Bool.not_false, Bool.true_eq_false, Bool.false_eq_true, List.getElem?_cons_zero, List.getElem?_cons_succ, List.nil_append, List.cons_append, reduceCtorEq, eq_self, decide_eq_false_iff_not, not_true_eq_false, not_false_eq_true, Nat.add_zero, Nat.succ_ne_self, Nat.one_ne_zero, Nat.zero_ne_one, ext_t]
  obtain ⟨h3, eh3, x3, n3, g3⟩ := boxed h2 ⟨[.int .i64 0, .int .i64 0, .int .i64 0, .int .i64 0, .int .i64 0, .int .i64 0, .bool false, .int .i64 0, .int .i64 0, .int .i64 0, .int .i64 0, .slice none 0 0, .int .i64 0, .int .i64 0, .slice none 0 0, .slice none 0 0, .int .i64 0, .int .i64 0, .int .i64 0, .int .i64 0, .int .i64 0, .slice none 0 0, .slice none 0 0, .slice none 0 0], 24, 0, none⟩
  rw [eh3]
  obtain ⟨h4, eh4, n4, x4, g4⟩ := stoW (k := 24) g3 rt.length rfl rt.cells rt.ne
  have gR4 := blk x4 (blk0 x3 (blk0 x2 gR0 (by omega)) (by omega)) (by omega) (show ¬ h.next = h2.next by omega)
  have rt4 := (rt.keep x3 (Nat.le_refl _)).ext x4 (by omega) (fun m j1 j2 (e : m = h2.next) => by omega)
  have xb : Ext no h.next h h4 := ((x0.trans x2 (by omega)).trans x3 (by omega)).then x4 (by omega) (fun m hm (e : m = h2.next) => by omega)
  simp only [run, Option.map_some, Nat.reduceEqDiff, Nat.reduceAdd, Nat.zero_add, ↓reduceIte, decide_eq_true_eq, decide_true, decide_false, Bool.not_true, Bool.not_false, Bool.true_eq_false, Bool.false_eq_true, List.getElem?_cons_zero, List.getElem?_cons_succ, List.nil_append, List.cons_append, reduceCtorEq, eq_self, decide_eq_false_iff_not, not_true_eq_false, not_false_eq_true, Nat.add_zero, Nat.succ_ne_self, Nat.one_ne_zero, Nat.zero_ne_one, eh4]
  have bad : (isSound l && (decM (l.drop 4)).2) = false → ∃ g, stV 24 (.pointer (some ⟨h.next, 0, none⟩)) (.agg ⟨[.int .i64 0, .int .i64 0, .int .i64 0, .int .i64 0, .int .i64 0, .int .i64 0, .bool false, .int .i64 0, .int .i64 0, .int .i64 0, .int .i64 0, .slice none 0 0, .int .i64 0, .int .i64 0, .slice none 0 0, .slice none 0 0, .int .i64 0, .int .i64 0, .int .i64 0, .int .i64 0, .int .i64 0, .slice none 0 0, .slice none 0 0, .slice none 0 0]⟩) h4 = some g ∧ g.loadN h.next 0 24 = some [.int .i64 0, .int .i64 0, .int .i64 0, .int .i64 0, .int .i64 0, .int .i64 0, .bool false, .int .i64 0, .int .i64 0, .int .i64 0, .int .i64 0, .slice none 0 0, .int .i64 0, .int .i64 0, .slice none 0 0, .slice none 0 0, .int .i64 0, .int .i64 0, .int .i64 0, .int .i64 0, .int .i64 0, .slice none 0 0, .slice none 0 0, .slice none 0 0] ∧ Ext no h.next h g := by
    intro _
    obtain ⟨h5, eh5, n5, x5, g5⟩ := stoW (k := 24) (vs := [.int .i64 0, .int .i64 0, .int .i64 0, .int .i64 0, .int .i64 0, .int .i64 0, .bool false, .int .i64 0, .int .i64 0, .int .i64 0, .int .i64 0, .slice none 0 0, .int .i64 0, .int .i64 0, .slice none 0 0, .slice none 0 0, .int .i64 0, .int .i64 0, .int .i64 0, .int .i64 0, .int .i64 0, .slice none 0 0, .slice none 0 0, .slice none 0 0]) gR4 rfl rfl rfl (by simp)
    exact ⟨h5, eh5, ld_whole (k := 24) g5 (by decide) rfl, xb.then x5 xb.next (fun m hm (e : m = h.next) => by omega)⟩
  cases hs : isSound l with
  | false =>
    obtain ⟨g, e1, e2, e3⟩ := bad (by rw [hs]; rfl)
    simp only [run, Option.map_some, Nat.reduceEqDiff, Nat.reduceAdd, Nat.zero_add, ↓reduceIte, decide_eq_true_eq, decide_true, decide_false, Bool.not_true, Bool.not_false, Bool.true_eq_false, Bool.false_eq_true, List.getElem?_cons_zero, List.getElem?_cons_succ, List.nil_append, List.cons_append, reduceCtorEq, eq_self, decide_eq_false_iff_not, not_true_eq_false, not_false_eq_true, Nat.add_zero, Nat.succ_ne_self, Nat.one_ne_zero, Nat.zero_ne_one, hs]
    refine use1 (v := [.int .i64 0, .int .i64 0, .int .i64 0, .int .i64 0, .int .i64 0, .int .i64 0, .bool false, .int .i64 0, .int .i64 0, .int .i64 0, .int .i64 0, .slice none 0 0, .int .i64 0, .int .i64 0, .slice none 0 0, .slice none 0 0, .int .i64 0, .int .i64 0, .int .i64 0, .int .i64 0, .int .i64 0, .slice none 0 0, .slice none 0 0, .slice none 0 0]) rfl ?_
    simp only [run, Option.map_some, Nat.reduceEqDiff, Nat.reduceAdd, Nat.zero_add, ↓reduceIte, decide_eq_true_eq, decide_true, decide_false, Bool.not_true, Bool.not_false, Bool.true_eq_false, Bool.false_eq_true, List.getElem?_cons_zero, List.getElem?_cons_succ, List.nil_append, List.cons_append, reduceCtorEq, eq_self, decide_eq_false_iff_not, not_true_eq_false, not_false_eq_true, Nat.add_zero, Nat.succ_ne_self, Nat.one_ne_zero, Nat.zero_ne_one, e1, e2, hs]
    exact ⟨e3, _, (by first | rfl | trivial), rep_zero⟩
  | true =>
    cases hok : (decM (l.drop 4)).2 with
    | false =>
      obtain ⟨g, e1, e2, e3⟩ := bad (by rw [hs, hok]; rfl)
      simp only [run, Option.map_some, Nat.reduceEqDiff, Nat.reduceAdd, Nat.zero_add, ↓reduceIte, decide_eq_true_eq, decide_true, decide_false, Bool.not_true, Bool.not_false, Bool.true_eq_false, Bool.false_eq_true, List.getElem?_cons_zero, List.getElem?_cons_succ, List.nil_append, List.cons_append, reduceCtorEq, eq_self, decide_eq_false_iff_not, not_true_eq_false, not_false_eq_true, Nat.add_zero, Nat.succ_ne_self, Nat.one_ne_zero, Nat.zero_ne_one, hs, hok]
      refine use1 (v := [.int .i64 0, .int .i64 0, .int .i64 0, .int .i64 0, .int .i64 0, .int .i64 0, .bool false, .int .i64 0, .int .i64 0, .int .i64 0, .int .i64 0, .slice none 0 0, .int .i64 0, .int .i64 0, .slice none 0 0, .slice none 0 0, .int .i64 0, .int .i64 0, .int .i64 0, .int .i64 0, .int .i64 0, .slice none 0 0, .slice none 0 0, .slice none 0 0]) rfl ?_
      simp only [run, Option.map_some, Nat.reduceEqDiff, Nat.reduceAdd, Nat.zero_add, ↓reduceIte, decide_eq_true_eq, decide_true, decide_false, Bool.not_true, Bool.not_false, Bool.true_eq_false, Bool.false_eq_true, List.getElem?_cons_zero, List.getElem?_cons_succ, List.nil_append, List.cons_append, reduceCtorEq, eq_self, decide_eq_false_iff_not, not_true_eq_false, not_false_eq_true, Nat.add_zero, Nat.succ_ne_self, Nat.one_ne_zero, Nat.zero_ne_one, e1, e2, hs, hok]
      exact ⟨e3, _, (by first | rfl | trivial), rep_zero⟩
    | true =>
      obtain ⟨h5, eh5, n5, x5, g5⟩ := stoW (k := 24) gR4 rt.length rfl rt.cells rt.ne
      simp only [run, Option.map_some, Nat.reduceEqDiff, Nat.reduceAdd, Nat.zero_add, ↓reduceIte, decide_eq_true_eq, decide_true, decide_false, Bool.not_true, Bool.not_false, Bool.true_eq_false, Bool.false_eq_true, List.getElem?_cons_zero, List.getElem?_cons_succ, List.nil_append, List.cons_append, reduceCtorEq, eq_self, decide_eq_false_iff_not, not_true_eq_false, not_false_eq_true, Nat.add_zero, Nat.succ_ne_self, Nat.one_ne_zero, Nat.zero_ne_one, hs, hok, ld_whole (k := 24) g4 (by decide) rt.length]
      refine use1 eh5 ?_
      simp only [run, Option.map_some, Nat.reduceEqDiff, Nat.reduceAdd, Nat.zero_add, ↓reduceIte, decide_eq_true_eq, decide_true, decide_false, Bool.not_true, Bool.not_false, Bool.true_eq_false, Bool.false_eq_true, List.getElem?_cons_zero, List.getElem?_cons_succ, List.nil_append, List.cons_append, reduceCtorEq, eq_self, decide_eq_false_iff_not, not_true_eq_false, not_false_eq_true, Nat.add_zero, Nat.succ_ne_self, Nat.one_ne_zero, Nat.zero_ne_one, ld_whole (k := 24) g5 (by decide) rt.length, hs, hok, Bool.and_self, if_true]
      exact ⟨xb.then x5 xb.next (fun m hm (e : m = h.next) => by omega), _, (by first | rfl | trivial), (rt4.ext x5 (by omega) (fun m j1 j2 (e : m = h.next) => by omega)).more (by omega) (by omega)⟩

end Go.Proofs.Ytapmpenkceomdaa
/- Messages that are the same, by the document's look; rows of numbers behind bytes, by its writer. -/
set_option linter.unusedSimpArgs false
set_option linter.unusedVariables false
set_option maxRecDepth 20000
namespace Go.Proofs.Ytapmpenkceomdaa
open Go.Ab

variable {n d : Nat} {h : AHeap}

set_option maxHeartbeats 1000000 in
theorem rsame_spec (hd : 3 ≤ d) {cs ct : List Value} {a b : Msg} (ha : RepM 0 h.next h cs a) (hb : RepM 0 h.next h ct b) (hl1 : a.have_.length < n) (hl2 : a.need.length < n) (hl3 : a.have_.length ≤ 2 ^ 46) (hl4 : a.need.length ≤ 2 ^ 46) :
    ∃ v' h', aCall Try.prog n d 38 [.agg ⟨cs⟩, .agg ⟨ct⟩] h = some (v', h') ∧ v' = .bool (decide (a = b)) ∧ Ext no h.next h h' := by
  obtain ⟨d, rfl, hd⟩ := depth hd
  refine call_of t38 (Nat.le_of_ble_eq_true rfl) ?_
  simp only [c38, run, Option.map_some, Nat.reduceEqDiff, Nat.reduceAdd, Nat.zero_add, ↓reduceIte, decide_eq_true_eq, decide_true, decide_false, Bool.not_true, Bool.not_false, Bool.true_eq_false, Bool.false_eq_true, List.getElem?_cons_zero, List.getElem?_cons_succ, List.nil_append, List.cons_append, reduceCtorEq, eq_self, decide_eq_false_iff_not, not_true_eq_false, not_false_eq_true, Nat.add_zero, Nat.succ_ne_self, Nat.one_ne_zero, Nat.zero_ne_one, cells_agg]
  obtain ⟨h0, eh0, x0, n0, g0⟩ := boxed h ⟨cs, 24, 0, none⟩
  rw [eh0]
  obtain ⟨h1, eh1, x1, n1, g1⟩ := boxed h0 ⟨ct, 24, 0, none⟩
  rw [eh1]
  have g01 := blk0 x1 g0 (by omega)
  have xb : Ext no h.next h h1 := x0.trans x1 (by omega)
  obtain ⟨p1, p2, p3, p4, p5, p6, rfl, ra1, rb1, rc1, rk1, rv1, ro1⟩ := ha.keep xb (Nat.le_refl _)
  obtain ⟨q1, q2, q3, q4, q5, q6, rfl, ra2, rb2, rc2, rk2, rv2, ro2⟩ := hb.keep xb (Nat.le_refl _)
  have La := fun i => ld_cell (o := i) g01 (by decide)
  have Lb := fun i => ld_cell (o := i) g1 (by decide)
  have Pa : h1.loadN h.next 17 7 = some [.int .i64 a.entry.sess, .int .i64 a.entry.seq, .int .i64 a.entry.kind, .int .i64 a.entry.who, p4, p5, p6] := ld_part (o := 17) (k := 7) g01 (by decide) (Nat.le_of_ble_eq_true rfl)
  have Pb : h1.loadN h0.next 17 7 = some [.int .i64 b.entry.sess, .int .i64 b.entry.seq, .int .i64 b.entry.kind, .int .i64 b.entry.who, q4, q5, q6] := ld_part (o := 17) (k := 7) g1 (by decide) (Nat.le_of_ble_eq_true rfl)
  simp only [run, Option.map_some, Nat.reduceEqDiff, Nat.reduceAdd, Nat.zero_add, ↓reduceIte, decide_eq_true_eq, decide_true, decide_false, Bool.not_true, Bool.not_false, Bool.true_eq_false, Bool.false_eq_true, List.getElem?_cons_zero, List.getElem?_cons_succ, List.nil_append, List.cons_append, reduceCtorEq, eq_self, decide_eq_false_iff_not, not_true_eq_false, not_false_eq_true, Nat.add_zero, Nat.succ_ne_self, Nat.one_ne_zero, Nat.zero_ne_one, La, Lb]
  by_cases c0 : a.kind = b.kind
  rotate_left
  · have C0 := eq_false c0
    have ne : ¬ a = b := fun e => c0 (by rw [e])
    (try simp only [run, Option.map_some, Nat.reduceEqDiff, Nat.reduceAdd, Nat.zero_add, ↓reduceIte, decide_eq_true_eq, decide_true, decide_false, Bool.not_true, Bool.not_false, Bool.true_eq_false, Bool.false_eq_true, List.getElem?_cons_zero, List.getElem?_cons_succ, List.nil_append, List.cons_append, reduceCtorEq, eq_self, decide_eq_false_iff_not, not_true_eq_false, not_false_eq_true, Nat.add_zero, Nat.succ_ne_self, Nat.one_ne_zero, Nat.zero_ne_one, La, Lb, Pa, Pb, beq_dec, b2tB ra1, b2tB ra2, str_eq, C0])
    exact ⟨by rw [decide_eq_false ne], xb⟩
  have C0 := eq_true c0
  (try simp only [run, Option.map_some, Nat.reduceEqDiff, Nat.reduceAdd, Nat.zero_add, ↓reduceIte, decide_eq_true_eq, decide_true, decide_false, Bool.not_true, Bool.not_false, Bool.true_eq_false, Bool.false_eq_true, List.getElem?_cons_zero, List.getElem?_cons_succ, List.nil_append, List.cons_append, reduceCtorEq, eq_self, decide_eq_false_iff_not, not_true_eq_false, not_false_eq_true, Nat.add_zero, Nat.succ_ne_self, Nat.one_ne_zero, Nat.zero_ne_one, La, Lb, Pa, Pb, beq_dec, b2tB ra1, b2tB ra2, str_eq, C0])
  by_cases c1 : a.src = b.src
  rotate_left
  · have C1 := eq_false c1
    have ne : ¬ a = b := fun e => c1 (by rw [e])
    (try simp only [run, Option.map_some, Nat.reduceEqDiff, Nat.reduceAdd, Nat.zero_add, ↓reduceIte, decide_eq_true_eq, decide_true, decide_false, Bool.not_true, Bool.not_false, Bool.true_eq_false, Bool.false_eq_true, List.getElem?_cons_zero, List.getElem?_cons_succ, List.nil_append, List.cons_append, reduceCtorEq, eq_self, decide_eq_false_iff_not, not_true_eq_false, not_false_eq_true, Nat.add_zero, Nat.succ_ne_self, Nat.one_ne_zero, Nat.zero_ne_one, La, Lb, Pa, Pb, beq_dec, b2tB ra1, b2tB ra2, str_eq, C1])
    exact ⟨by rw [decide_eq_false ne], xb⟩
  have C1 := eq_true c1
  (try simp only [run, Option.map_some, Nat.reduceEqDiff, Nat.reduceAdd, Nat.zero_add, ↓reduceIte, decide_eq_true_eq, decide_true, decide_false, Bool.not_true, Bool.not_false, Bool.true_eq_false, Bool.false_eq_true, List.getElem?_cons_zero, List.getElem?_cons_succ, List.nil_append, List.cons_append, reduceCtorEq, eq_self, decide_eq_false_iff_not, not_true_eq_false, not_false_eq_true, Nat.add_zero, Nat.succ_ne_self, Nat.one_ne_zero, Nat.zero_ne_one, La, Lb, Pa, Pb, beq_dec, b2tB ra1, b2tB ra2, str_eq, C1])
  by_cases c2 : a.dst = b.dst
  rotate_left
  · have C2 := eq_false c2
    have ne : ¬ a = b := fun e => c2 (by rw [e])
    (try simp only [run, Option.map_some, Nat.reduceEqDiff, Nat.reduceAdd, Nat.zero_add, ↓reduceIte, decide_eq_true_eq, decide_true, decide_false, Bool.not_true, Bool.not_false, Bool.true_eq_false, Bool.false_eq_true, List.getElem?_cons_zero, List.getElem?_cons_succ, List.nil_append, List.cons_append, reduceCtorEq, eq_self, decide_eq_false_iff_not, not_true_eq_false, not_false_eq_true, Nat.add_zero, Nat.succ_ne_self, Nat.one_ne_zero, Nat.zero_ne_one, La, Lb, Pa, Pb, beq_dec, b2tB ra1, b2tB ra2, str_eq, C2])
    exact ⟨by rw [decide_eq_false ne], xb⟩
  have C2 := eq_true c2
  (try simp only [run, Option.map_some, Nat.reduceEqDiff, Nat.reduceAdd, Nat.zero_add, ↓reduceIte, decide_eq_true_eq, decide_true, decide_false, Bool.not_true, Bool.not_false, Bool.true_eq_false, Bool.false_eq_true, List.getElem?_cons_zero, List.getElem?_cons_succ, List.nil_append, List.cons_append, reduceCtorEq, eq_self, decide_eq_false_iff_not, not_true_eq_false, not_false_eq_true, Nat.add_zero, Nat.succ_ne_self, Nat.one_ne_zero, Nat.zero_ne_one, La, Lb, Pa, Pb, beq_dec, b2tB ra1, b2tB ra2, str_eq, C2])
  by_cases c3 : a.view = b.view
  rotate_left
  · have C3 := eq_false c3
    have ne : ¬ a = b := fun e => c3 (by rw [e])
    (try simp only [run, Option.map_some, Nat.reduceEqDiff, Nat.reduceAdd, Nat.zero_add, ↓reduceIte, decide_eq_true_eq, decide_true, decide_false, Bool.not_true, Bool.not_false, Bool.true_eq_false, Bool.false_eq_true, List.getElem?_cons_zero, List.getElem?_cons_succ, List.nil_append, List.cons_append, reduceCtorEq, eq_self, decide_eq_false_iff_not, not_true_eq_false, not_false_eq_true, Nat.add_zero, Nat.succ_ne_self, Nat.one_ne_zero, Nat.zero_ne_one, La, Lb, Pa, Pb, beq_dec, b2tB ra1, b2tB ra2, str_eq, C3])
    exact ⟨by rw [decide_eq_false ne], xb⟩
  have C3 := eq_true c3
  (try simp only [run, Option.map_some, Nat.reduceEqDiff, Nat.reduceAdd, Nat.zero_add, ↓reduceIte, decide_eq_true_eq, decide_true, decide_false, Bool.not_true, Bool.not_false, Bool.true_eq_false, Bool.false_eq_true, List.getElem?_cons_zero, List.getElem?_cons_succ, List.nil_append, List.cons_append, reduceCtorEq, eq_self, decide_eq_false_iff_not, not_true_eq_false, not_false_eq_true, Nat.add_zero, Nat.succ_ne_self, Nat.one_ne_zero, Nat.zero_ne_one, La, Lb, Pa, Pb, beq_dec, b2tB ra1, b2tB ra2, str_eq, C3])
  by_cases c4 : a.inst = b.inst
  rotate_left
  · have C4 := eq_false c4
    have ne : ¬ a = b := fun e => c4 (by rw [e])
    (try simp only [run, Option.map_some, Nat.reduceEqDiff, Nat.reduceAdd, Nat.zero_add, ↓reduceIte, decide_eq_true_eq, decide_true, decide_false, Bool.not_true, Bool.not_false, Bool.true_eq_false, Bool.false_eq_true, List.getElem?_cons_zero, List.getElem?_cons_succ, List.nil_append, List.cons_append, reduceCtorEq, eq_self, decide_eq_false_iff_not, not_true_eq_false, not_false_eq_true, Nat.add_zero, Nat.succ_ne_self, Nat.one_ne_zero, Nat.zero_ne_one, La, Lb, Pa, Pb, beq_dec, b2tB ra1, b2tB ra2, str_eq, C4])
    exact ⟨by rw [decide_eq_false ne], xb⟩
  have C4 := eq_true c4
  (try simp only [run, Option.map_some, Nat.reduceEqDiff, Nat.reduceAdd, Nat.zero_add, ↓reduceIte, decide_eq_true_eq, decide_true, decide_false, Bool.not_true, Bool.not_false, Bool.true_eq_false, Bool.false_eq_true, List.getElem?_cons_zero, List.getElem?_cons_succ, List.nil_append, List.cons_append, reduceCtorEq, eq_self, decide_eq_false_iff_not, not_true_eq_false, not_false_eq_true, Nat.add_zero, Nat.succ_ne_self, Nat.one_ne_zero, Nat.zero_ne_one, La, Lb, Pa, Pb, beq_dec, b2tB ra1, b2tB ra2, str_eq, C4])
  by_cases c5 : a.len = b.len
  rotate_left
  · have C5 := eq_false c5
    have ne : ¬ a = b := fun e => c5 (by rw [e])
    (try simp only [run, Option.map_some, Nat.reduceEqDiff, Nat.reduceAdd, Nat.zero_add, ↓reduceIte, decide_eq_true_eq, decide_true, decide_false, Bool.not_true, Bool.not_false, Bool.true_eq_false, Bool.false_eq_true, List.getElem?_cons_zero, List.getElem?_cons_succ, List.nil_append, List.cons_append, reduceCtorEq, eq_self, decide_eq_false_iff_not, not_true_eq_false, not_false_eq_true, Nat.add_zero, Nat.succ_ne_self, Nat.one_ne_zero, Nat.zero_ne_one, La, Lb, Pa, Pb, beq_dec, b2tB ra1, b2tB ra2, str_eq, C5])
    exact ⟨by rw [decide_eq_false ne], xb⟩
  have C5 := eq_true c5
  (try simp only [run, Option.map_some, Nat.reduceEqDiff, Nat.reduceAdd, Nat.zero_add, ↓reduceIte, decide_eq_true_eq, decide_true, decide_false, Bool.not_true, Bool.not_false, Bool.true_eq_false, Bool.false_eq_true, List.getElem?_cons_zero, List.getElem?_cons_succ, List.nil_append, List.cons_append, reduceCtorEq, eq_self, decide_eq_false_iff_not, not_true_eq_false, not_false_eq_true, Nat.add_zero, Nat.succ_ne_self, Nat.one_ne_zero, Nat.zero_ne_one, La, Lb, Pa, Pb, beq_dec, b2tB ra1, b2tB ra2, str_eq, C5])
  by_cases c6 : a.has = b.has
  rotate_left
  · have C6 := eq_false c6
    have ne : ¬ a = b := fun e => c6 (by rw [e])
    (try simp only [run, Option.map_some, Nat.reduceEqDiff, Nat.reduceAdd, Nat.zero_add, ↓reduceIte, decide_eq_true_eq, decide_true, decide_false, Bool.not_true, Bool.not_false, Bool.true_eq_false, Bool.false_eq_true, List.getElem?_cons_zero, List.getElem?_cons_succ, List.nil_append, List.cons_append, reduceCtorEq, eq_self, decide_eq_false_iff_not, not_true_eq_false, not_false_eq_true, Nat.add_zero, Nat.succ_ne_self, Nat.one_ne_zero, Nat.zero_ne_one, La, Lb, Pa, Pb, beq_dec, b2tB ra1, b2tB ra2, str_eq, C6])
    exact ⟨by rw [decide_eq_false ne], xb⟩
  have C6 := eq_true c6
  (try simp only [run, Option.map_some, Nat.reduceEqDiff, Nat.reduceAdd, Nat.zero_add, ↓reduceIte, decide_eq_true_eq, decide_true, decide_false, Bool.not_true, Bool.not_false, Bool.true_eq_false, Bool.false_eq_true, List.getElem?_cons_zero, List.getElem?_cons_succ, List.nil_append, List.cons_append, reduceCtorEq, eq_self, decide_eq_false_iff_not, not_true_eq_false, not_false_eq_true, Nat.add_zero, Nat.succ_ne_self, Nat.one_ne_zero, Nat.zero_ne_one, La, Lb, Pa, Pb, beq_dec, b2tB ra1, b2tB ra2, str_eq, C6])
  by_cases c7 : a.members = b.members
  rotate_left
  · have C7 := eq_false c7
    have ne : ¬ a = b := fun e => c7 (by rw [e])
    (try simp only [run, Option.map_some, Nat.reduceEqDiff, Nat.reduceAdd, Nat.zero_add, ↓reduceIte, decide_eq_true_eq, decide_true, decide_false, Bool.not_true, Bool.not_false, Bool.true_eq_false, Bool.false_eq_true, List.getElem?_cons_zero, List.getElem?_cons_succ, List.nil_append, List.cons_append, reduceCtorEq, eq_self, decide_eq_false_iff_not, not_true_eq_false, not_false_eq_true, Nat.add_zero, Nat.succ_ne_self, Nat.one_ne_zero, Nat.zero_ne_one, La, Lb, Pa, Pb, beq_dec, b2tB ra1, b2tB ra2, str_eq, C7])
    exact ⟨by rw [decide_eq_false ne], xb⟩
  have C7 := eq_true c7
  (try simp only [run, Option.map_some, Nat.reduceEqDiff, Nat.reduceAdd, Nat.zero_add, ↓reduceIte, decide_eq_true_eq, decide_true, decide_false, Bool.not_true, Bool.not_false, Bool.true_eq_false, Bool.false_eq_true, List.getElem?_cons_zero, List.getElem?_cons_succ, List.nil_append, List.cons_append, reduceCtorEq, eq_self, decide_eq_false_iff_not, not_true_eq_false, not_false_eq_true, Nat.add_zero, Nat.succ_ne_self, Nat.one_ne_zero, Nat.zero_ne_one, La, Lb, Pa, Pb, beq_dec, b2tB ra1, b2tB ra2, str_eq, C7])
  by_cases c8 : a.source = b.source
  rotate_left
  · have C8 := eq_false c8
    have ne : ¬ a = b := fun e => c8 (by rw [e])
    (try simp only [run, Option.map_some, Nat.reduceEqDiff, Nat.reduceAdd, Nat.zero_add, ↓reduceIte, decide_eq_true_eq, decide_true, decide_false, Bool.not_true, Bool.not_false, Bool.true_eq_false, Bool.false_eq_true, List.getElem?_cons_zero, List.getElem?_cons_succ, List.nil_append, List.cons_append, reduceCtorEq, eq_self, decide_eq_false_iff_not, not_true_eq_false, not_false_eq_true, Nat.add_zero, Nat.succ_ne_self, Nat.one_ne_zero, Nat.zero_ne_one, La, Lb, Pa, Pb, beq_dec, b2tB ra1, b2tB ra2, str_eq, C8])
    exact ⟨by rw [decide_eq_false ne], xb⟩
  have C8 := eq_true c8
  (try simp only [run, Option.map_some, Nat.reduceEqDiff, Nat.reduceAdd, Nat.zero_add, ↓reduceIte, decide_eq_true_eq, decide_true, decide_false, Bool.not_true, Bool.not_false, Bool.true_eq_false, Bool.false_eq_true, List.getElem?_cons_zero, List.getElem?_cons_succ, List.nil_append, List.cons_append, reduceCtorEq, eq_self, decide_eq_false_iff_not, not_true_eq_false, not_false_eq_true, Nat.add_zero, Nat.succ_ne_self, Nat.one_ne_zero, Nat.zero_ne_one, La, Lb, Pa, Pb, beq_dec, b2tB ra1, b2tB ra2, str_eq, C8])
  by_cases c9 : a.place = b.place
  rotate_left
  · have C9 := eq_false c9
    have ne : ¬ a = b := fun e => c9 (by rw [e])
    (try simp only [run, Option.map_some, Nat.reduceEqDiff, Nat.reduceAdd, Nat.zero_add, ↓reduceIte, decide_eq_true_eq, decide_true, decide_false, Bool.not_true, Bool.not_false, Bool.true_eq_false, Bool.false_eq_true, List.getElem?_cons_zero, List.getElem?_cons_succ, List.nil_append, List.cons_append, reduceCtorEq, eq_self, decide_eq_false_iff_not, not_true_eq_false, not_false_eq_true, Nat.add_zero, Nat.succ_ne_self, Nat.one_ne_zero, Nat.zero_ne_one, La, Lb, Pa, Pb, beq_dec, b2tB ra1, b2tB ra2, str_eq, C9])
    exact ⟨by rw [decide_eq_false ne], xb⟩
  have C9 := eq_true c9
  (try simp only [run, Option.map_some, Nat.reduceEqDiff, Nat.reduceAdd, Nat.zero_add, ↓reduceIte, decide_eq_true_eq, decide_true, decide_false, Bool.not_true, Bool.not_false, Bool.true_eq_false, Bool.false_eq_true, List.getElem?_cons_zero, List.getElem?_cons_succ, List.nil_append, List.cons_append, reduceCtorEq, eq_self, decide_eq_false_iff_not, not_true_eq_false, not_false_eq_true, Nat.add_zero, Nat.succ_ne_self, Nat.one_ne_zero, Nat.zero_ne_one, La, Lb, Pa, Pb, beq_dec, b2tB ra1, b2tB ra2, str_eq, C9])
  by_cases c10 : a.total = b.total
  rotate_left
  · have C10 := eq_false c10
    have ne : ¬ a = b := fun e => c10 (by rw [e])
    (try simp only [run, Option.map_some, Nat.reduceEqDiff, Nat.reduceAdd, Nat.zero_add, ↓reduceIte, decide_eq_true_eq, decide_true, decide_false, Bool.not_true, Bool.not_false, Bool.true_eq_false, Bool.false_eq_true, List.getElem?_cons_zero, List.getElem?_cons_succ, List.nil_append, List.cons_append, reduceCtorEq, eq_self, decide_eq_false_iff_not, not_true_eq_false, not_false_eq_true, Nat.add_zero, Nat.succ_ne_self, Nat.one_ne_zero, Nat.zero_ne_one, La, Lb, Pa, Pb, beq_dec, b2tB ra1, b2tB ra2, str_eq, C10])
    exact ⟨by rw [decide_eq_false ne], xb⟩
  have C10 := eq_true c10
  (try simp only [run, Option.map_some, Nat.reduceEqDiff, Nat.reduceAdd, Nat.zero_add, ↓reduceIte, decide_eq_true_eq, decide_true, decide_false, Bool.not_true, Bool.not_false, Bool.true_eq_false, Bool.false_eq_true, List.getElem?_cons_zero, List.getElem?_cons_succ, List.nil_append, List.cons_append, reduceCtorEq, eq_self, decide_eq_false_iff_not, not_true_eq_false, not_false_eq_true, Nat.add_zero, Nat.succ_ne_self, Nat.one_ne_zero, Nat.zero_ne_one, La, Lb, Pa, Pb, beq_dec, b2tB ra1, b2tB ra2, str_eq, C10])
  by_cases c11 : a.data = b.data
  rotate_left
  · have C11 := eq_false c11
    have ne : ¬ a = b := fun e => c11 (by rw [e])
    (try simp only [run, Option.map_some, Nat.reduceEqDiff, Nat.reduceAdd, Nat.zero_add, ↓reduceIte, decide_eq_true_eq, decide_true, decide_false, Bool.not_true, Bool.not_false, Bool.true_eq_false, Bool.false_eq_true, List.getElem?_cons_zero, List.getElem?_cons_succ, List.nil_append, List.cons_append, reduceCtorEq, eq_self, decide_eq_false_iff_not, not_true_eq_false, not_false_eq_true, Nat.add_zero, Nat.succ_ne_self, Nat.one_ne_zero, Nat.zero_ne_one, La, Lb, Pa, Pb, beq_dec, b2tB ra1, b2tB ra2, str_eq, C11])
    exact ⟨by rw [decide_eq_false ne], xb⟩
  have C11 := eq_true c11
  (try simp only [run, Option.map_some, Nat.reduceEqDiff, Nat.reduceAdd, Nat.zero_add, ↓reduceIte, decide_eq_true_eq, decide_true, decide_false, Bool.not_true, Bool.not_false, Bool.true_eq_false, Bool.false_eq_true, List.getElem?_cons_zero, List.getElem?_cons_succ, List.nil_append, List.cons_append, reduceCtorEq, eq_self, decide_eq_false_iff_not, not_true_eq_false, not_false_eq_true, Nat.add_zero, Nat.succ_ne_self, Nat.one_ne_zero, Nat.zero_ne_one, La, Lb, Pa, Pb, beq_dec, b2tB ra1, b2tB ra2, str_eq, C11])
  by_cases c12 : a.hop = b.hop
  rotate_left
  · have C12 := eq_false c12
    have ne : ¬ a = b := fun e => c12 (by rw [e])
    (try simp only [run, Option.map_some, Nat.reduceEqDiff, Nat.reduceAdd, Nat.zero_add, ↓reduceIte, decide_eq_true_eq, decide_true, decide_false, Bool.not_true, Bool.not_false, Bool.true_eq_false, Bool.false_eq_true, List.getElem?_cons_zero, List.getElem?_cons_succ, List.nil_append, List.cons_append, reduceCtorEq, eq_self, decide_eq_false_iff_not, not_true_eq_false, not_false_eq_true, Nat.add_zero, Nat.succ_ne_self, Nat.one_ne_zero, Nat.zero_ne_one, La, Lb, Pa, Pb, beq_dec, b2tB ra1, b2tB ra2, str_eq, C12])
    exact ⟨by rw [decide_eq_false ne], xb⟩
  have C12 := eq_true c12
  (try simp only [run, Option.map_some, Nat.reduceEqDiff, Nat.reduceAdd, Nat.zero_add, ↓reduceIte, decide_eq_true_eq, decide_true, decide_false, Bool.not_true, Bool.not_false, Bool.true_eq_false, Bool.false_eq_true, List.getElem?_cons_zero, List.getElem?_cons_succ, List.nil_append, List.cons_append, reduceCtorEq, eq_self, decide_eq_false_iff_not, not_true_eq_false, not_false_eq_true, Nat.add_zero, Nat.succ_ne_self, Nat.one_ne_zero, Nat.zero_ne_one, La, Lb, Pa, Pb, beq_dec, b2tB ra1, b2tB ra2, str_eq, C12])
  by_cases c13 : a.seq = b.seq
  rotate_left
  · have C13 := eq_false c13
    have ne : ¬ a = b := fun e => c13 (by rw [e])
    (try simp only [run, Option.map_some, Nat.reduceEqDiff, Nat.reduceAdd, Nat.zero_add, ↓reduceIte, decide_eq_true_eq, decide_true, decide_false, Bool.not_true, Bool.not_false, Bool.true_eq_false, Bool.false_eq_true, List.getElem?_cons_zero, List.getElem?_cons_succ, List.nil_append, List.cons_append, reduceCtorEq, eq_self, decide_eq_false_iff_not, not_true_eq_false, not_false_eq_true, Nat.add_zero, Nat.succ_ne_self, Nat.one_ne_zero, Nat.zero_ne_one, La, Lb, Pa, Pb, beq_dec, b2tB ra1, b2tB ra2, str_eq, C13])
    exact ⟨by rw [decide_eq_false ne], xb⟩
  have C13 := eq_true c13
  (try simp only [run, Option.map_some, Nat.reduceEqDiff, Nat.reduceAdd, Nat.zero_add, ↓reduceIte, decide_eq_true_eq, decide_true, decide_false, Bool.not_true, Bool.not_false, Bool.true_eq_false, Bool.false_eq_true, List.getElem?_cons_zero, List.getElem?_cons_succ, List.nil_append, List.cons_append, reduceCtorEq, eq_self, decide_eq_false_iff_not, not_true_eq_false, not_false_eq_true, Nat.add_zero, Nat.succ_ne_self, Nat.one_ne_zero, Nat.zero_ne_one, La, Lb, Pa, Pb, beq_dec, b2tB ra1, b2tB ra2, str_eq, C13])
  refine useE (same41_spec (by omega) rb1 rb2 hl1 (by omega)) ?_
  (try simp only [run, Option.map_some, Nat.reduceEqDiff, Nat.reduceAdd, Nat.zero_add, ↓reduceIte, decide_eq_true_eq, decide_true, decide_false, Bool.not_true, Bool.not_false, Bool.true_eq_false, Bool.false_eq_true, List.getElem?_cons_zero, List.getElem?_cons_succ, List.nil_append, List.cons_append, reduceCtorEq, eq_self, decide_eq_false_iff_not, not_true_eq_false, not_false_eq_true, Nat.add_zero, Nat.succ_ne_self, Nat.one_ne_zero, Nat.zero_ne_one, La, Lb, Pa, Pb, beq_dec, b2tB ra1, b2tB ra2, str_eq])
  by_cases c14 : a.have_ = b.have_
  rotate_left
  · have C14 := eq_false c14
    have ne : ¬ a = b := fun e => c14 (by rw [e])
    (try simp only [run, Option.map_some, Nat.reduceEqDiff, Nat.reduceAdd, Nat.zero_add, ↓reduceIte, decide_eq_true_eq, decide_true, decide_false, Bool.not_true, Bool.not_false, Bool.true_eq_false, Bool.false_eq_true, List.getElem?_cons_zero, List.getElem?_cons_succ, List.nil_append, List.cons_append, reduceCtorEq, eq_self, decide_eq_false_iff_not, not_true_eq_false, not_false_eq_true, Nat.add_zero, Nat.succ_ne_self, Nat.one_ne_zero, Nat.zero_ne_one, La, Lb, Pa, Pb, beq_dec, b2tB ra1, b2tB ra2, str_eq, C14])
    exact ⟨by rw [decide_eq_false ne], xb⟩
  have C14 := eq_true c14
  (try simp only [run, Option.map_some, Nat.reduceEqDiff, Nat.reduceAdd, Nat.zero_add, ↓reduceIte, decide_eq_true_eq, decide_true, decide_false, Bool.not_true, Bool.not_false, Bool.true_eq_false, Bool.false_eq_true, List.getElem?_cons_zero, List.getElem?_cons_succ, List.nil_append, List.cons_append, reduceCtorEq, eq_self, decide_eq_false_iff_not, not_true_eq_false, not_false_eq_true, Nat.add_zero, Nat.succ_ne_self, Nat.one_ne_zero, Nat.zero_ne_one, La, Lb, Pa, Pb, beq_dec, b2tB ra1, b2tB ra2, str_eq, C14])
  refine useE (same41_spec (by omega) rc1 rc2 hl2 (by omega)) ?_
  (try simp only [run, Option.map_some, Nat.reduceEqDiff, Nat.reduceAdd, Nat.zero_add, ↓reduceIte, decide_eq_true_eq, decide_true, decide_false, Bool.not_true, Bool.not_false, Bool.true_eq_false, Bool.false_eq_true, List.getElem?_cons_zero, List.getElem?_cons_succ, List.nil_append, List.cons_append, reduceCtorEq, eq_self, decide_eq_false_iff_not, not_true_eq_false, not_false_eq_true, Nat.add_zero, Nat.succ_ne_self, Nat.one_ne_zero, Nat.zero_ne_one, La, Lb, Pa, Pb, beq_dec, b2tB ra1, b2tB ra2, str_eq])
  by_cases c15 : a.need = b.need
  rotate_left
  · have C15 := eq_false c15
    have ne : ¬ a = b := fun e => c15 (by rw [e])
    (try simp only [run, Option.map_some, Nat.reduceEqDiff, Nat.reduceAdd, Nat.zero_add, ↓reduceIte, decide_eq_true_eq, decide_true, decide_false, Bool.not_true, Bool.not_false, Bool.true_eq_false, Bool.false_eq_true, List.getElem?_cons_zero, List.getElem?_cons_succ, List.nil_append, List.cons_append, reduceCtorEq, eq_self, decide_eq_false_iff_not, not_true_eq_false, not_false_eq_true, Nat.add_zero, Nat.succ_ne_self, Nat.one_ne_zero, Nat.zero_ne_one, La, Lb, Pa, Pb, beq_dec, b2tB ra1, b2tB ra2, str_eq, C15])
    exact ⟨by rw [decide_eq_false ne], xb⟩
  have C15 := eq_true c15
  (try simp only [run, Option.map_some, Nat.reduceEqDiff, Nat.reduceAdd, Nat.zero_add, ↓reduceIte, decide_eq_true_eq, decide_true, decide_false, Bool.not_true, Bool.not_false, Bool.true_eq_false, Bool.false_eq_true, List.getElem?_cons_zero, List.getElem?_cons_succ, List.nil_append, List.cons_append, reduceCtorEq, eq_self, decide_eq_false_iff_not, not_true_eq_false, not_false_eq_true, Nat.add_zero, Nat.succ_ne_self, Nat.one_ne_zero, Nat.zero_ne_one, La, Lb, Pa, Pb, beq_dec, b2tB ra1, b2tB ra2, str_eq, C15])
  by_cases c16 : a.index = b.index
  rotate_left
  · have C16 := eq_false c16
    have ne : ¬ a = b := fun e => c16 (by rw [e])
    (try simp only [run, Option.map_some, Nat.reduceEqDiff, Nat.reduceAdd, Nat.zero_add, ↓reduceIte, decide_eq_true_eq, decide_true, decide_false, Bool.not_true, Bool.not_false, Bool.true_eq_false, Bool.false_eq_true, List.getElem?_cons_zero, List.getElem?_cons_succ, List.nil_append, List.cons_append, reduceCtorEq, eq_self, decide_eq_false_iff_not, not_true_eq_false, not_false_eq_true, Nat.add_zero, Nat.succ_ne_self, Nat.one_ne_zero, Nat.zero_ne_one, La, Lb, Pa, Pb, beq_dec, b2tB ra1, b2tB ra2, str_eq, C16])
    exact ⟨by rw [decide_eq_false ne], xb⟩
  have C16 := eq_true c16
  (try simp only [run, Option.map_some, Nat.reduceEqDiff, Nat.reduceAdd, Nat.zero_add, ↓reduceIte, decide_eq_true_eq, decide_true, decide_false, Bool.not_true, Bool.not_false, Bool.true_eq_false, Bool.false_eq_true, List.getElem?_cons_zero, List.getElem?_cons_succ, List.nil_append, List.cons_append, reduceCtorEq, eq_self, decide_eq_false_iff_not, not_true_eq_false, not_false_eq_true, Nat.add_zero, Nat.succ_ne_self, Nat.one_ne_zero, Nat.zero_ne_one, La, Lb, Pa, Pb, beq_dec, b2tB ra1, b2tB ra2, str_eq, C16])
  refine use (sameE28_spec (by omega) (⟨p4, p5, p6, rfl, rk1.more (Nat.le_refl _) (by omega), rv1.more (Nat.le_refl _) (by omega), ro1.more (Nat.le_refl _) (by omega)⟩ : RepE 0 h1.next h1 _ a.entry) (⟨q4, q5, q6, rfl, rk2.more (Nat.le_refl _) (by omega), rv2.more (Nat.le_refl _) (by omega), ro2.more (Nat.le_refl _) (by omega)⟩ : RepE 0 h1.next h1 _ b.entry)) ?_
  rintro _ h2 ⟨rfl, x2⟩
  have xb2 : Ext no h.next h h2 := xb.trans x2 (by omega)
  (try simp only [run, Option.map_some, Nat.reduceEqDiff, Nat.reduceAdd, Nat.zero_add, ↓reduceIte, decide_eq_true_eq, decide_true, decide_false, Bool.not_true, Bool.not_false, Bool.true_eq_false, Bool.false_eq_true, List.getElem?_cons_zero, List.getElem?_cons_succ, List.nil_append, List.cons_append, reduceCtorEq, eq_self, decide_eq_false_iff_not, not_true_eq_false, not_false_eq_true, Nat.add_zero, Nat.succ_ne_self, Nat.one_ne_zero, Nat.zero_ne_one, La, Lb, Pa, Pb, beq_dec, b2tB ra1, b2tB ra2, str_eq])
  by_cases c17 : a.entry = b.entry
  rotate_left
  · have C17 := eq_false c17
    have ne : ¬ a = b := fun e => c17 (by rw [e])
    (try simp only [run, Option.map_some, Nat.reduceEqDiff, Nat.reduceAdd, Nat.zero_add, ↓reduceIte, decide_eq_true_eq, decide_true, decide_false, Bool.not_true, Bool.not_false, Bool.true_eq_false, Bool.false_eq_true, List.getElem?_cons_zero, List.getElem?_cons_succ, List.nil_append, List.cons_append, reduceCtorEq, eq_self, decide_eq_false_iff_not, not_true_eq_false, not_false_eq_true, Nat.add_zero, Nat.succ_ne_self, Nat.one_ne_zero, Nat.zero_ne_one, La, Lb, Pa, Pb, beq_dec, b2tB ra1, b2tB ra2, str_eq, C17])
    exact ⟨by rw [decide_eq_false ne], xb2⟩
  have C17 := eq_true c17
  (try simp only [run, Option.map_some, Nat.reduceEqDiff, Nat.reduceAdd, Nat.zero_add, ↓reduceIte, decide_eq_true_eq, decide_true, decide_false, Bool.not_true, Bool.not_false, Bool.true_eq_false, Bool.false_eq_true, List.getElem?_cons_zero, List.getElem?_cons_succ, List.nil_append, List.cons_append, reduceCtorEq, eq_self, decide_eq_false_iff_not, not_true_eq_false, not_false_eq_true, Nat.add_zero, Nat.succ_ne_self, Nat.one_ne_zero, Nat.zero_ne_one, La, Lb, Pa, Pb, beq_dec, b2tB ra1, b2tB ra2, str_eq, C17])
  have e : a = b := by cases a; cases b; simp_all
  exact ⟨by rw [decide_eq_true e], xb2⟩

/-- numbers behind bytes, by the document's writer -/
theorem rnums_spec (hd : 2 ≤ d) (hn : 20 ≤ n) {v s : Value} {l : List UInt8} {xs : List Int} (hv : Bytes 0 h.next h v l) (hs : Ints 0 h.next h s xs) (hl : l.length ≤ 2 ^ 43) (hx : xs.length ≤ 2 ^ 36) (hxn : xs.length < n) :
    ∃ v' h', aCall Try.prog n d 102 [v, s] h = some (v', h') ∧ Ext no h.next h h' ∧ Bytes 0 h'.next h' v' (l ++ numsB xs) ∧ (xs ≠ [] → OwnB h.next h' v' (l ++ numsB xs)) := by
  obtain ⟨d, rfl, hd⟩ := depth hd
  refine call_of t102 (Nat.le_of_ble_eq_true rfl) ?_
  simp only [c102, run, Option.map_some, Nat.reduceEqDiff, Nat.reduceAdd, Nat.zero_add, ↓reduceIte, decide_eq_true_eq, decide_true, decide_false, Bool.not_true, Bool.not_false, Bool.true_eq_false, Bool.false_eq_true, List.getElem?_cons_zero, List.getElem?_cons_succ, List.nil_append, List.cons_append, reduceCtorEq, eq_self, decide_eq_false_iff_not, not_true_eq_false, not_false_eq_true, Nat.add_zero, Nat.succ_ne_self, Nat.one_ne_zero, Nat.zero_ne_one]
  refine w_loop (fun m E g => ∃ i, i + m = xs.length ∧ E 1 = s ∧ E 5 = .int .i64 (i : Nat) ∧ Ext no h.next h g ∧ Bytes 0 g.next g (E 0) (l ++ numsB (xs.take i)) ∧ (0 < i → OwnB h.next g (E 0) (l ++ numsB (xs.take i)))) xs.length hxn ?_ ?_
  · exact ⟨0, by omega, rfl, rfl, Ext.refl _ _ _, by simpa [numsB, run, Option.map_some, Nat.reduceEqDiff, Nat.reduceAdd, Nat.zero_add, ↓reduceIte, decide_eq_true_eq, decide_true, decide_false, Bool.not_true, Bool.not_false, Bool.true_eq_false, Bool.false_eq_true, List.getElem?_cons_zero, List.getElem?_cons_succ, List.nil_append, List.cons_append, reduceCtorEq, eq_self, decide_eq_false_iff_not, not_true_eq_false, not_false_eq_true, Nat.add_zero, Nat.succ_ne_self, Nat.one_ne_zero, Nat.zero_ne_one] using hv, fun h => by omega⟩
  rintro m E g ⟨i, hm, e1, e5, xg, gb, go⟩
  have ng := xg.next
  have hs' := hs.keep xg (Nat.le_refl _)
  simp only [run, Option.map_some, Nat.reduceEqDiff, Nat.reduceAdd, Nat.zero_add, ↓reduceIte, decide_eq_true_eq, decide_true, decide_false, Bool.not_true, Bool.not_false, Bool.true_eq_false, Bool.false_eq_true, List.getElem?_cons_zero, List.getElem?_cons_succ, List.nil_append, List.cons_append, reduceCtorEq, eq_self, decide_eq_false_iff_not, not_true_eq_false, not_false_eq_true, Nat.add_zero, Nat.succ_ne_self, Nat.one_ne_zero, Nat.zero_ne_one, e1, e5, lenI hs']
  by_cases hi : i < xs.length
  · have hi' : ((i : Int) < xs.length) = True := eq_true (by omega)
    obtain ⟨q, o, a1, _, a2⟩ := loadI (k := .i64) hs' hi
    have a6 : binV .add 0 (.int .i64 i) (.int .i64 1) = some (.int .i64 ((i + 1 : Nat) : Int)) := b_addN 0 (k := .i64) (a := i) (b := 1) (fits_i64 (by omega))
    simp only [run, Option.map_some, Nat.reduceEqDiff, Nat.reduceAdd, Nat.zero_add, ↓reduceIte, decide_eq_true_eq, decide_true, decide_false, Bool.not_true, Bool.not_false, Bool.true_eq_false, Bool.false_eq_true, List.getElem?_cons_zero, List.getElem?_cons_succ, List.nil_append, List.cons_append, reduceCtorEq, eq_self, decide_eq_false_iff_not, not_true_eq_false, not_false_eq_true, Nat.add_zero, Nat.succ_ne_self, Nat.one_ne_zero, Nat.zero_ne_one, hi', e1, e5, a1, a2]
    have hnl := numsB_len (xs.take i)
    have htl : (xs.take i).length ≤ xs.length := by simp; omega
    refine use (rnum_spec (by omega) hn gb (by rw [List.length_append]; omega)) ?_
    rintro v2 h2 ⟨x2, o2⟩
    simp only [run, Option.map_some, Nat.reduceEqDiff, Nat.reduceAdd, Nat.zero_add, ↓reduceIte, decide_eq_true_eq, decide_true, decide_false, Bool.not_true, Bool.not_false, Bool.true_eq_false, Bool.false_eq_true, List.getElem?_cons_zero, List.getElem?_cons_succ, List.nil_append, List.cons_append, reduceCtorEq, eq_self, decide_eq_false_iff_not, not_true_eq_false, not_false_eq_true, Nat.add_zero, Nat.succ_ne_self, Nat.one_ne_zero, Nat.zero_ne_one, e1, e5, a6]
    have e9 : l ++ numsB (xs.take (i + 1)) = l ++ numsB (xs.take i) ++ vnum (heldN xs[i]) := by
      rw [List.take_succ_eq_append_getElem hi, numsB_snoc, ← List.append_assoc]
    refine ⟨m - 1, by omega, i + 1, by omega, (by first | rfl | trivial), (by first | rfl | trivial), xg.trans x2 (by omega), ?_, fun _ => ?_⟩
    · rw [e9]; exact o2.sl.more (Nat.zero_le _) (Nat.le_refl _)
    · rw [e9]; exact o2.less (by omega)
  · have hi' : ((i : Int) < xs.length) = False := eq_false (by omega)
    simp only [run, Option.map_some, Nat.reduceEqDiff, Nat.reduceAdd, Nat.zero_add, ↓reduceIte, decide_eq_true_eq, decide_true, decide_false, Bool.not_true, Bool.not_false, Bool.true_eq_false, Bool.false_eq_true, List.getElem?_cons_zero, List.getElem?_cons_succ, List.nil_append, List.cons_append, reduceCtorEq, eq_self, decide_eq_false_iff_not, not_true_eq_false, not_false_eq_true, Nat.add_zero, Nat.succ_ne_self, Nat.one_ne_zero, Nat.zero_ne_one, hi']
    rw [List.take_of_length_le (by omega)] at gb go
    exact ⟨xg, gb, fun hne => go (by have := List.length_pos_iff.2 hne; omega)⟩

end Go.Proofs.Ytapmpenkceomdaa
/- Messages of numbers. -/
set_option linter.unusedSimpArgs false
set_option linter.unusedVariables false
set_option maxRecDepth 20000
namespace Go.Proofs.Ytapmpenkceomdaa
open Go.Ab

variable {n d : Nat} {h : AHeap}

def kindOf (a : Int) : Nat := andN a 7 + 1
def baseOf (a : Int) : Msg := { zeroM with kind := kindOf a, src := (andN (shrI a 3) 7 % 7 : Nat), dst := (andN (shrI a 6) 7 % 7 : Nat), view := andN (shrI a 9) 1023 }
def dataOf (b : Int) (k : Nat) : List UInt8 := (List.range k).map fun (i : Nat) => UInt8.ofNat ((shrI b (andN (i : Int) 15)) % 256).toNat
def intsOf (b : Int) (z k : Nat) : List Int := (List.range k).map fun (i : Nat) => ((andN (shrI b (i + z)) 63 : Nat) : Int)
def clampE (e : Entry) : Entry := { e with who := max e.who 0 }
/-- a message of two numbers -/
def msgOf (a b : Int) : Msg :=
  if kindOf a = 2 then { baseOf a with inst := andN b 255, len := andN (shrI b 8) 63, has := decide (((andN (shrI b 14) 1 : Nat) : Int) = 1) }
  else if kindOf a = 3 then { baseOf a with members := andN b 127, source := (andN (shrI b 7) 7 % 7 : Nat), len := andN (shrI b 10) 63 }
  else if kindOf a = 4 then { baseOf a with place := andN b 4095 }
  else if kindOf a = 5 then { baseOf a with place := andN b 4095, total := andN (shrI b 12) 4095, data := dataOf b (andN (shrI b 24) 63) }
  else if kindOf a = 7 then { baseOf a with hop := andN b 1023, seq := andN (shrI b 10) 255, have_ := intsOf b 0 (andN (shrI b 18) 7), need := intsOf b 3 (andN (shrI b 21) 7) }
  else if kindOf a = 8 then { baseOf a with index := andN b 1023, entry := clampE (entryOf a (andN (shrI b 10) 63)) }
  else baseOf a

theorem dataOf_succ (b : Int) (k : Nat) : dataOf b (k + 1) = dataOf b k ++ [UInt8.ofNat ((shrI b (andN (k : Int) 15)) % 256).toNat] := by simp [dataOf, List.range_succ]
theorem intsOf_succ (b : Int) (z k : Nat) : intsOf b z (k + 1) = intsOf b z k ++ [((andN (shrI b (k + z)) 63 : Nat) : Int)] := by simp [intsOf, List.range_succ]
theorem dataOf_length (b : Int) (k : Nat) : (dataOf b k).length = k := by simp [dataOf]
theorem intsOf_length (b : Int) (z k : Nat) : (intsOf b z k).length = k := by simp [intsOf]

theorem msg_spec (hd : 4 ≤ d) (hn : 100 ≤ n) (a b : Int) (h : AHeap) : ∃ v' h', aCall Try.prog n d 33 [.int .i64 a, .int .i64 b] h = some (v', h') ∧ Ext no h.next h h' ∧
    ∃ cs, v' = .agg ⟨cs⟩ ∧ RepM h.next h'.next h' cs (msgOf a b) := by
  obtain ⟨d, rfl, hd⟩ := depth hd
  refine call_of t33 (Nat.le_of_ble_eq_true rfl) ?_
  simp only [c33, run, Option.map_some, Nat.reduceEqDiff, Nat.reduceAdd, Nat.zero_add, ↓reduceIte, decide_eq_true_eq, decide_true, decide_false, Bool.not_true, Bool.not_false, Bool.true_eq_false, Bool.false_eq_true, List.getElem?_cons_zero, List.getElem?_cons_succ, List.nil_append, List.cons_append, reduceCtorEq, eq_self, decide_eq_false_iff_not, not_true_eq_false, not_false_eq_true, Nat.add_zero, Nat.succ_ne_self, Nat.one_ne_zero, Nat.zero_ne_one]
  obtain ⟨h0, eh0, x0, n0, gR0⟩ := boxed h ⟨[.int .i64 0, .int .i64 0, .int .i64 0, .int .i64 0, .int .i64 0, .int .i64 0, .bool false, .int .i64 0, .int .i64 0, .int .i64 0, .int .i64 0, .slice none 0 0, .int .i64 0, .int .i64 0, .slice none 0 0, .slice none 0 0, .int .i64 0, .int .i64 0, .int .i64 0, .int .i64 0, .int .i64 0, .slice none 0 0, .slice none 0 0, .slice none 0 0], 24, 0, none⟩
  rw [eh0]
  have k7 := andN_le a (b := 7) (by decide)
  have k3 := andN_le (shrI a 3) (b := 7) (by decide)
  have k6 := andN_le (shrI a 6) (b := 7) (by decide)
  have a1 : binV .add 0 (.int .i64 ((andN a 7 : Nat) : Int)) (.int .i64 1) = some (.int .i64 ((kindOf a : Nat) : Int)) := b_addN 0 (k := .i64) (a := andN a 7) (b := 1) (fits_i64 (by omega))
  have a2 : binV .rem 0 (.int .i64 ((andN (shrI a 3) 7 : Nat) : Int)) (.int .i64 7) = some (.int .i64 ((andN (shrI a 3) 7 % 7 : Nat) : Int)) := b_remN 0 _ 7 (by decide)
  have a3 : binV .rem 0 (.int .i64 ((andN (shrI a 6) 7 : Nat) : Int)) (.int .i64 7) = some (.int .i64 ((andN (shrI a 6) 7 % 7 : Nat) : Int)) := b_remN 0 _ 7 (by decide)
  have kle : kindOf a ≤ 8 := by unfold kindOf; omega
  simp only [run, Option.map_some, Nat.reduceEqDiff, Nat.reduceAdd, Nat.zero_add, ↓reduceIte, decide_eq_true_eq, decide_true, decide_false, Bool.not_true, Bool.not_false, Bool.true_eq_false, Bool.false_eq_true, List.getElem?_cons_zero, List.getElem?_cons_succ, List.nil_append, List.cons_append, reduceCtorEq, eq_self, decide_eq_false_iff_not, not_true_eq_false, not_false_eq_true, Nat.add_zero, Nat.succ_ne_self, Nat.one_ne_zero, Nat.zero_ne_one, masks, a1, a2, a3]
  refine use1 (v := [.int .i64 (kindOf a), .int .i64 ((andN (shrI a 3) 7 % 7 : Nat) : Int), .int .i64 ((andN (shrI a 6) 7 % 7 : Nat) : Int), .int .i64 (andN (shrI a 9) 1023), .int .i64 0, .int .i64 0, .bool false, .int .i64 0, .int .i64 0, .int .i64 0, .int .i64 0, .slice none 0 0, .int .i64 0, .int .i64 0, .slice none 0 0, .slice none 0 0, .int .i64 0, .int .i64 0, .int .i64 0, .int .i64 0, .int .i64 0, .slice none 0 0, .slice none 0 0, .slice none 0 0]) rfl ?_
  (try simp only [run, Option.map_some, Nat.reduceEqDiff, Nat.reduceAdd, Nat.zero_add, ↓reduceIte, decide_eq_true_eq, decide_true, decide_false, Bool.not_true, Bool.not_false, Bool.true_eq_false, Bool.false_eq_true, List.getElem?_cons_zero, List.getElem?_cons_succ, List.nil_append, List.cons_append, reduceCtorEq, eq_self, decide_eq_false_iff_not, not_true_eq_false, not_false_eq_true, Nat.add_zero, Nat.succ_ne_self, Nat.one_ne_zero, Nat.zero_ne_one])
  obtain ⟨h1, eh1, x1, n1, g1⟩ := boxed h0 ⟨[.int .i64 0, .int .i64 0, .int .i64 0, .int .i64 0, .int .i64 0, .int .i64 0, .bool false, .int .i64 0, .int .i64 0, .int .i64 0, .int .i64 0, .slice none 0 0, .int .i64 0, .int .i64 0, .slice none 0 0, .slice none 0 0, .int .i64 0, .int .i64 0, .int .i64 0, .int .i64 0, .int .i64 0, .slice none 0 0, .slice none 0 0, .slice none 0 0], 24, 0, none⟩
  rw [eh1]
  obtain ⟨h2, eh2, n2, x2, g2⟩ := stoW (k := 24) (vs := [.int .i64 (kindOf a), .int .i64 ((andN (shrI a 3) 7 % 7 : Nat) : Int), .int .i64 ((andN (shrI a 6) 7 % 7 : Nat) : Int), .int .i64 (andN (shrI a 9) 1023), .int .i64 0, .int .i64 0, .bool false, .int .i64 0, .int .i64 0, .int .i64 0, .int .i64 0, .slice none 0 0, .int .i64 0, .int .i64 0, .slice none 0 0, .slice none 0 0, .int .i64 0, .int .i64 0, .int .i64 0, .int .i64 0, .int .i64 0, .slice none 0 0, .slice none 0 0, .slice none 0 0]) g1 rfl rfl rfl (by simp)
  have gR2 := blk x2 (blk0 x1 gR0 (by omega)) (by omega) (show ¬ h.next = h0.next by omega)
  have xb2 : Ext no h.next h h2 := (x0.trans x1 (by omega)).then x2 (by omega) (fun m hm (e : m = h0.next) => by omega)
  have L2 := fun i => ld_cell (o := i) g2 (by decide)
  have fin : ∀ (g : AHeap) (cs : List Value), Ext (one h0.next) h2.next h2 g → g.get h0.next = ⟨cs, 24, 0, none⟩ → RepM (h0.next + 1) g.next g cs (msgOf a b) →
      ∃ g', g.loadN h0.next 0 24 = some cs ∧ stV 24 (.pointer (some ⟨h.next, 0, none⟩)) (.agg ⟨cs⟩) g = some g' ∧ g'.loadN h.next 0 24 = some cs ∧ Ext no h.next h g' ∧ RepM h.next g'.next g' cs (msgOf a b) := by
    intro g cs xg gg rg
    have ng := xg.next
    obtain ⟨g', e1, e2, x, e3⟩ := stoW (k := 24) (blk xg gR2 (by omega) (show ¬ h.next = h0.next by omega)) rg.length rfl rg.cells rg.ne
    refine ⟨g', ld_whole (k := 24) gg (by decide) rg.length, e1, ld_whole (k := 24) e3 (by decide) rg.length, ?_, ?_⟩
    · exact (xb2.then xg (by omega) (fun m hm (e : m = h0.next) => by omega)).then x (by omega) (fun m hm (e : m = h.next) => by omega)
    · exact (rg.ext x (Nat.le_refl _) (fun m j1 j2 (e : m = h.next) => by omega)).more (by omega) (by omega)
  simp only [run, Option.map_some, Nat.reduceEqDiff, Nat.reduceAdd, Nat.zero_add, ↓reduceIte, decide_eq_true_eq, decide_true, decide_false, Bool.not_true, Bool.not_false, Bool.true_eq_false, Bool.false_eq_true, List.getElem?_cons_zero, List.getElem?_cons_succ, List.nil_append, List.cons_append, reduceCtorEq, eq_self, decide_eq_false_iff_not, not_true_eq_false, not_false_eq_true, Nat.add_zero, Nat.succ_ne_self, Nat.one_ne_zero, Nat.zero_ne_one, eh2, L2]
  by_cases c2 : kindOf a = 2
  · have c2' : (((kindOf a : Nat) : Int) = 2) = True := eq_true (by omega)
    obtain ⟨g4, e4, m4, y4, b4⟩ := stoC (o := 4) (v := .int .i64 ((andN b 255 : Nat) : Int)) g2 rfl (by simp)
    obtain ⟨g5, e5, m5, y5, b5⟩ := stoC (o := 5) (v := .int .i64 ((andN (shrI b 8) 63 : Nat) : Int)) b4 rfl (by simp)
    obtain ⟨g6, e6, m6, y6, b6⟩ := stoC (o := 6) (v := .bool (decide (((andN (shrI b 14) 1 : Nat) : Int) = 1))) b5 rfl (by simp)
    have xg : Ext (one h0.next) h2.next h2 g6 := (y4.trans y5 (by omega)).trans y6 (by omega)
    obtain ⟨g7, f1, f2, f3, f4, f5⟩ := fin g6 _ xg b6 (by
      unfold msgOf
      rw [if_pos c2]
      exact ⟨_, _, _, _, _, _, rfl, Sl.nil, Sl.nil, Sl.nil, Sl.nil, Sl.nil, Sl.nil⟩)
    simp only [run, Option.map_some, Nat.reduceEqDiff, Nat.reduceAdd, Nat.zero_add, ↓reduceIte, decide_eq_true_eq, decide_true, decide_false, Bool.not_true, Bool.not_false, Bool.true_eq_false, Bool.false_eq_true, List.getElem?_cons_zero, List.getElem?_cons_succ, List.nil_append, List.cons_append, reduceCtorEq, eq_self, decide_eq_false_iff_not, not_true_eq_false, not_false_eq_true, Nat.add_zero, Nat.succ_ne_self, Nat.one_ne_zero, Nat.zero_ne_one, masks, c2', e4, e5, e6, f1, f2, f3]
    exact ⟨f4, _, rfl, f5⟩
  have c2' : (((kindOf a : Nat) : Int) = 2) = False := eq_false (by omega)
  by_cases c3 : kindOf a = 3
  · have c3' : (((kindOf a : Nat) : Int) = 3) = True := eq_true (by omega)
    have h77 := andN_le (shrI b 7) (b := 7) (by decide)
    have aa : binV .rem 0 (.int .i64 ((andN (shrI b 7) 7 : Nat) : Int)) (.int .i64 7) = some (.int .i64 ((andN (shrI b 7) 7 % 7 : Nat) : Int)) := b_remN 0 _ 7 (by decide)
    obtain ⟨g4, e4, m4, y4, b4⟩ := stoC (o := 7) (v := .int .i64 ((andN b 127 : Nat) : Int)) g2 rfl (by simp)
    obtain ⟨g5, e5, m5, y5, b5⟩ := stoC (o := 8) (v := .int .i64 ((andN (shrI b 7) 7 % 7 : Nat) : Int)) b4 rfl (by simp)
    obtain ⟨g6, e6, m6, y6, b6⟩ := stoC (o := 5) (v := .int .i64 ((andN (shrI b 10) 63 : Nat) : Int)) b5 rfl (by simp)
    have xg : Ext (one h0.next) h2.next h2 g6 := (y4.trans y5 (by omega)).trans y6 (by omega)
    obtain ⟨g7, f1, f2, f3, f4, f5⟩ := fin g6 _ xg b6 (by
      unfold msgOf
      rw [if_neg c2]; rw [if_pos c3]
      exact ⟨_, _, _, _, _, _, rfl, Sl.nil, Sl.nil, Sl.nil, Sl.nil, Sl.nil, Sl.nil⟩)
    simp only [run, Option.map_some, Nat.reduceEqDiff, Nat.reduceAdd, Nat.zero_add, ↓reduceIte, decide_eq_true_eq, decide_true, decide_false, Bool.not_true, Bool.not_false, Bool.true_eq_false, Bool.false_eq_true, List.getElem?_cons_zero, List.getElem?_cons_succ, List.nil_append, List.cons_append, reduceCtorEq, eq_self, decide_eq_false_iff_not, not_true_eq_false, not_false_eq_true, Nat.add_zero, Nat.succ_ne_self, Nat.one_ne_zero, Nat.zero_ne_one, masks, aa, c2', c3', e4, e5, e6, f1, f2, f3]
    exact ⟨f4, _, rfl, f5⟩
  have c3' : (((kindOf a : Nat) : Int) = 3) = False := eq_false (by omega)
  by_cases c4 : kindOf a = 4
  · have c4' : (((kindOf a : Nat) : Int) = 4) = True := eq_true (by omega)
    obtain ⟨g4, e4, m4, y4, b4⟩ := stoC (o := 9) (v := .int .i64 ((andN b 4095 : Nat) : Int)) g2 rfl (by simp)
    have xg : Ext (one h0.next) h2.next h2 g4 := y4
    obtain ⟨g7, f1, f2, f3, f4, f5⟩ := fin g4 _ xg b4 (by
      unfold msgOf
      rw [if_neg c2]; rw [if_neg c3]; rw [if_pos c4]
      exact ⟨_, _, _, _, _, _, rfl, Sl.nil, Sl.nil, Sl.nil, Sl.nil, Sl.nil, Sl.nil⟩)
    simp only [run, Option.map_some, Nat.reduceEqDiff, Nat.reduceAdd, Nat.zero_add, ↓reduceIte, decide_eq_true_eq, decide_true, decide_false, Bool.not_true, Bool.not_false, Bool.true_eq_false, Bool.false_eq_true, List.getElem?_cons_zero, List.getElem?_cons_succ, List.nil_append, List.cons_append, reduceCtorEq, eq_self, decide_eq_false_iff_not, not_true_eq_false, not_false_eq_true, Nat.add_zero, Nat.succ_ne_self, Nat.one_ne_zero, Nat.zero_ne_one, masks, c2', c3', c4', e4, f1, f2, f3]
    exact ⟨f4, _, rfl, f5⟩
  have c4' : (((kindOf a : Nat) : Int) = 4) = False := eq_false (by omega)
  by_cases c5 : kindOf a = 5
  · have c5' : (((kindOf a : Nat) : Int) = 5) = True := eq_true (by omega)
    obtain ⟨g4, e4, m4, y4, b4⟩ := stoC (o := 9) (v := .int .i64 ((andN b 4095 : Nat) : Int)) g2 rfl (by simp)
    obtain ⟨g5, e5, m5, y5, b5⟩ := stoC (o := 10) (v := .int .i64 ((andN (shrI b 12) 4095 : Nat) : Int)) b4 rfl (by simp)
    have hK := andN_le (shrI b 24) (b := 63) (by decide)
    simp only [run, Option.map_some, Nat.reduceEqDiff, Nat.reduceAdd, Nat.zero_add, ↓reduceIte, decide_eq_true_eq, decide_true, decide_false, Bool.not_true, Bool.not_false, Bool.true_eq_false, Bool.false_eq_true, List.getElem?_cons_zero, List.getElem?_cons_succ, List.nil_append, List.cons_append, reduceCtorEq, eq_self, decide_eq_false_iff_not, not_true_eq_false, not_false_eq_true, Nat.add_zero, Nat.succ_ne_self, Nat.one_ne_zero, Nat.zero_ne_one, masks, c2', c3', c4', c5', e4, e5]
    refine w_loop (fun m E g => ∃ (i : Nat) (w : Value), i + m = andN (shrI b 24) 63 ∧ E 1 = .int .i64 b ∧ E 4 = .pointer (some ⟨h.next, 0, none⟩) ∧ E 5 = .pointer (some ⟨h0.next, 0, none⟩) ∧ E 6 = .int .i64 (i : Nat) ∧ Ext (one h0.next) h2.next h2 g ∧
      g.get h0.next = ⟨[.int .i64 (kindOf a), .int .i64 ((andN (shrI a 3) 7 % 7 : Nat) : Int), .int .i64 ((andN (shrI a 6) 7 % 7 : Nat) : Int), .int .i64 (andN (shrI a 9) 1023), .int .i64 0, .int .i64 0, .bool false, .int .i64 0, .int .i64 0, .int .i64 ((andN b 4095 : Nat) : Int), .int .i64 ((andN (shrI b 12) 4095 : Nat) : Int), w, .int .i64 0, .int .i64 0, .slice none 0 0, .slice none 0 0, .int .i64 0, .int .i64 0, .int .i64 0, .int .i64 0, .int .i64 0, .slice none 0 0, .slice none 0 0, .slice none 0 0], 24, 0, none⟩ ∧ OwnB (h0.next + 1) g w (dataOf b i)) (andN (shrI b 24) 63) (by omega) ?_ ?_
    · exact ⟨0, _, by omega, rfl, rfl, rfl, rfl, y4.trans y5 (by omega), b5, Own.nil⟩
    rintro m E g ⟨i, w, hm, e1, e4', e5', e6, xg, gg, og⟩
    have ng := xg.next
    simp only [run, Option.map_some, Nat.reduceEqDiff, Nat.reduceAdd, Nat.zero_add, ↓reduceIte, decide_eq_true_eq, decide_true, decide_false, Bool.not_true, Bool.not_false, Bool.true_eq_false, Bool.false_eq_true, List.getElem?_cons_zero, List.getElem?_cons_succ, List.nil_append, List.cons_append, reduceCtorEq, eq_self, decide_eq_false_iff_not, not_true_eq_false, not_false_eq_true, Nat.add_zero, Nat.succ_ne_self, Nat.one_ne_zero, Nat.zero_ne_one, masks, e1, e4', e5', e6]
    by_cases hi : i < andN (shrI b 24) 63
    · have hi' : ((i : Int) < ((andN (shrI b 24) 63 : Nat) : Int)) = True := eq_true (by omega)
      have h15 := andN_le (i : Int) (b := 15) (by decide)
      have L := ld_cell (o := 11) gg (by decide)
      have b1 : convV .u64 (.int .i64 ((andN (i : Int) 15 : Nat) : Int)) = some (.int .u64 ((andN (i : Int) 15 : Nat) : Int)) := convN (fits_u64 (by omega))
      have b2 : binV .shr 0 (.int .i64 b) (.int .u64 ((andN (i : Int) 15 : Nat) : Int)) = some (.int .i64 (shrI b (andN (i : Int) 15))) := b_shrI 0 b _ (by omega)
      have b3 : convV .u8 (.int .i64 (shrI b (andN (i : Int) 15))) = some (.int .u8 ((((shrI b (andN (i : Int) 15)) % 256).toNat : Nat) : Int)) := by
        rw [conv_int, wrap_u8']
        congr 2; omega
      have a6 : binV .add 0 (.int .i64 i) (.int .i64 1) = some (.int .i64 ((i + 1 : Nat) : Int)) := b_addN 0 (k := .i64) (a := i) (b := 1) (fits_i64 (by omega))
      simp only [run, Option.map_some, Nat.reduceEqDiff, Nat.reduceAdd, Nat.zero_add, ↓reduceIte, decide_eq_true_eq, decide_true, decide_false, Bool.not_true, Bool.not_false, Bool.true_eq_false, Bool.false_eq_true, List.getElem?_cons_zero, List.getElem?_cons_succ, List.nil_append, List.cons_append, reduceCtorEq, eq_self, decide_eq_false_iff_not, not_true_eq_false, not_false_eq_true, Nat.add_zero, Nat.succ_ne_self, Nat.one_ne_zero, Nat.zero_ne_one, masks, hi', e1, e4', e5', e6, L, b1, b2, b3]
      refine useE (bslice_one _ _ _ _) ?_
      simp only [run, Option.map_some, Nat.reduceEqDiff, Nat.reduceAdd, Nat.zero_add, ↓reduceIte, decide_eq_true_eq, decide_true, decide_false, Bool.not_true, Bool.not_false, Bool.true_eq_false, Bool.false_eq_true, List.getElem?_cons_zero, List.getElem?_cons_succ, List.nil_append, List.cons_append, reduceCtorEq, eq_self, decide_eq_false_iff_not, not_true_eq_false, not_false_eq_true, Nat.add_zero, Nat.succ_ne_self, Nat.one_ne_zero, Nat.zero_ne_one, e1, e4', e5', e6]
      refine use (append_byte og (by omega) (by omega) (by rw [dataOf_length]; omega)) ?_
      rintro w2 g2' ⟨x2', o2'⟩
      have n2' := x2'.next
      simp only [run, Option.map_some, Nat.reduceEqDiff, Nat.reduceAdd, Nat.zero_add, ↓reduceIte, decide_eq_true_eq, decide_true, decide_false, Bool.not_true, Bool.not_false, Bool.true_eq_false, Bool.false_eq_true, List.getElem?_cons_zero, List.getElem?_cons_succ, List.nil_append, List.cons_append, reduceCtorEq, eq_self, decide_eq_false_iff_not, not_true_eq_false, not_false_eq_true, Nat.add_zero, Nat.succ_ne_self, Nat.one_ne_zero, Nat.zero_ne_one, e1, e4', e5', e6]
      have xg2 : Ext no (h0.next + 1) g g2' := x2'
      obtain ⟨g3, e3, m3, x3', b3'⟩ := stoC (o := 11) (v := w2) (blk0 xg2 gg (by omega)) o2'.sl.cell (by simp)
      refine use1 e3 ?_
      simp only [run, Option.map_some, Nat.reduceEqDiff, Nat.reduceAdd, Nat.zero_add, ↓reduceIte, decide_eq_true_eq, decide_true, decide_false, Bool.not_true, Bool.not_false, Bool.true_eq_false, Bool.false_eq_true, List.getElem?_cons_zero, List.getElem?_cons_succ, List.nil_append, List.cons_append, reduceCtorEq, eq_self, decide_eq_false_iff_not, not_true_eq_false, not_false_eq_true, Nat.add_zero, Nat.succ_ne_self, Nat.one_ne_zero, Nat.zero_ne_one, e1, e4', e5', e6, a6]
      refine ⟨m - 1, by omega, i + 1, w2, by omega, (by first | rfl | trivial), (by first | rfl | trivial), (by first | rfl | trivial), (by first | rfl | trivial), ?_, b3', ?_⟩
      · exact xg.trans ((x2'.none.less (lo' := h2.next) (by omega)).trans (x3'.less (lo' := h2.next) (by omega)) (by omega)) (by omega)
      · rw [dataOf_succ]
        exact (o2'.ext x3' (Nat.le_refl _) (fun j h1 h2 (e : j = h0.next) => by omega))
    · have hi' : ((i : Int) < ((andN (shrI b 24) 63 : Nat) : Int)) = False := eq_false (by omega)
      obtain rfl : i = andN (shrI b 24) 63 := by omega
      obtain ⟨g7, f1, f2, f3, f4, f5⟩ := fin g _ xg gg (by
        unfold msgOf
        rw [if_neg c2]; rw [if_neg c3]; rw [if_neg c4]; rw [if_pos c5]
        exact ⟨_, _, _, _, _, _, rfl, og.sl, Sl.nil, Sl.nil, Sl.nil, Sl.nil, Sl.nil⟩)
      simp only [run, Option.map_some, Nat.reduceEqDiff, Nat.reduceAdd, Nat.zero_add, ↓reduceIte, decide_eq_true_eq, decide_true, decide_false, Bool.not_true, Bool.not_false, Bool.true_eq_false, Bool.false_eq_true, List.getElem?_cons_zero, List.getElem?_cons_succ, List.nil_append, List.cons_append, reduceCtorEq, eq_self, decide_eq_false_iff_not, not_true_eq_false, not_false_eq_true, Nat.add_zero, Nat.succ_ne_self, Nat.one_ne_zero, Nat.zero_ne_one, hi', e4', e5', f1, f2, f3]
      exact ⟨f4, _, rfl, f5⟩
  have c5' : (((kindOf a : Nat) : Int) = 5) = False := eq_false (by omega)
  by_cases c7 : kindOf a = 7
  · have c7' : (((kindOf a : Nat) : Int) = 7) = True := eq_true (by omega)
    obtain ⟨g4, e4, m4, y4, b4⟩ := stoC (o := 12) (v := .int .i64 ((andN b 1023 : Nat) : Int)) g2 rfl (by simp)
    obtain ⟨g5, e5, m5, y5, b5⟩ := stoC (o := 13) (v := .int .i64 ((andN (shrI b 10) 255 : Nat) : Int)) b4 rfl (by simp)
    have hK := andN_le (shrI b 18) (b := 7) (by decide)
    have hK2 := andN_le (shrI b 21) (b := 7) (by decide)
    simp only [run, Option.map_some, Nat.reduceEqDiff, Nat.reduceAdd, Nat.zero_add, ↓reduceIte, decide_eq_true_eq, decide_true, decide_false, Bool.not_true, Bool.not_false, Bool.true_eq_false, Bool.false_eq_true, List.getElem?_cons_zero, List.getElem?_cons_succ, List.nil_append, List.cons_append, reduceCtorEq, eq_self, decide_eq_false_iff_not, not_true_eq_false, not_false_eq_true, Nat.add_zero, Nat.succ_ne_self, Nat.one_ne_zero, Nat.zero_ne_one, masks, c2', c3', c4', c5', c7', e4, e5]
    refine w_loop (fun m E g => ∃ (i : Nat) (w : Value), i + m = andN (shrI b 18) 7 ∧ E 1 = .int .i64 b ∧ E 4 = .pointer (some ⟨h.next, 0, none⟩) ∧ E 5 = .pointer (some ⟨h0.next, 0, none⟩) ∧ E 7 = .int .i64 (i : Nat) ∧ Ext (one h0.next) h2.next h2 g ∧
      g.get h0.next = ⟨[.int .i64 (kindOf a), .int .i64 ((andN (shrI a 3) 7 % 7 : Nat) : Int), .int .i64 ((andN (shrI a 6) 7 % 7 : Nat) : Int), .int .i64 (andN (shrI a 9) 1023), .int .i64 0, .int .i64 0, .bool false, .int .i64 0, .int .i64 0, .int .i64 0, .int .i64 0, .slice none 0 0, .int .i64 ((andN b 1023 : Nat) : Int), .int .i64 ((andN (shrI b 10) 255 : Nat) : Int), w, .slice none 0 0, .int .i64 0, .int .i64 0, .int .i64 0, .int .i64 0, .int .i64 0, .slice none 0 0, .slice none 0 0, .slice none 0 0], 24, 0, none⟩ ∧ OwnI (h0.next + 1) g w (intsOf b 0 i)) (andN (shrI b 18) 7) (by omega) ?_ ?_
    · exact ⟨0, _, by omega, rfl, rfl, rfl, rfl, y4.trans y5 (by omega), b5, Own.nil⟩
    rintro m E g ⟨i, w, hm, e1, e4', e5', e6, xg, gg, og⟩
    have ng := xg.next
    simp only [run, Option.map_some, Nat.reduceEqDiff, Nat.reduceAdd, Nat.zero_add, ↓reduceIte, decide_eq_true_eq, decide_true, decide_false, Bool.not_true, Bool.not_false, Bool.true_eq_false, Bool.false_eq_true, List.getElem?_cons_zero, List.getElem?_cons_succ, List.nil_append, List.cons_append, reduceCtorEq, eq_self, decide_eq_false_iff_not, not_true_eq_false, not_false_eq_true, Nat.add_zero, Nat.succ_ne_self, Nat.one_ne_zero, Nat.zero_ne_one, masks, e1, e4', e5', e6]
    by_cases hi : i < andN (shrI b 18) 7
    · have hi' : ((i : Int) < ((andN (shrI b 18) 7 : Nat) : Int)) = True := eq_true (by omega)
      have L := ld_cell (o := 14) gg (by decide)
      have b1 : convV .u64 (.int .i64 ((i : Nat) : Int)) = some (.int .u64 ((i : Nat) : Int)) := convN (fits_u64 (by omega))
      have b2 : binV .shr 0 (.int .i64 b) (.int .u64 ((i : Nat) : Int)) = some (.int .i64 (shrI b (i))) := b_shrI 0 b _ (by omega)
      have a6 : binV .add 0 (.int .i64 i) (.int .i64 1) = some (.int .i64 ((i + 1 : Nat) : Int)) := b_addN 0 (k := .i64) (a := i) (b := 1) (fits_i64 (by omega))
      simp only [run, Option.map_some, Nat.reduceEqDiff, Nat.reduceAdd, Nat.zero_add, ↓reduceIte, decide_eq_true_eq, decide_true, decide_false, Bool.not_true, Bool.not_false, Bool.true_eq_false, Bool.false_eq_true, List.getElem?_cons_zero, List.getElem?_cons_succ, List.nil_append, List.cons_append, reduceCtorEq, eq_self, decide_eq_false_iff_not, not_true_eq_false, not_false_eq_true, Nat.add_zero, Nat.succ_ne_self, Nat.one_ne_zero, Nat.zero_ne_one, masks, hi', e1, e4', e5', e6, L, b1, b2]
      refine useE (bslice_one_int _ _ _) ?_
      simp only [run, Option.map_some, Nat.reduceEqDiff, Nat.reduceAdd, Nat.zero_add, ↓reduceIte, decide_eq_true_eq, decide_true, decide_false, Bool.not_true, Bool.not_false, Bool.true_eq_false, Bool.false_eq_true, List.getElem?_cons_zero, List.getElem?_cons_succ, List.nil_append, List.cons_append, reduceCtorEq, eq_self, decide_eq_false_iff_not, not_true_eq_false, not_false_eq_true, Nat.add_zero, Nat.succ_ne_self, Nat.one_ne_zero, Nat.zero_ne_one, e1, e4', e5', e6]
      refine use (append_int og (by omega) (by rw [intsOf_length]; omega)) ?_
      rintro w2 g2' ⟨x2', o2'⟩
      have n2' := x2'.next
      simp only [run, Option.map_some, Nat.reduceEqDiff, Nat.reduceAdd, Nat.zero_add, ↓reduceIte, decide_eq_true_eq, decide_true, decide_false, Bool.not_true, Bool.not_false, Bool.true_eq_false, Bool.false_eq_true, List.getElem?_cons_zero, List.getElem?_cons_succ, List.nil_append, List.cons_append, reduceCtorEq, eq_self, decide_eq_false_iff_not, not_true_eq_false, not_false_eq_true, Nat.add_zero, Nat.succ_ne_self, Nat.one_ne_zero, Nat.zero_ne_one, e1, e4', e5', e6]
      have xg2 : Ext no (h0.next + 1) g g2' := x2'
      obtain ⟨g3, e3, m3, x3', b3'⟩ := stoC (o := 14) (v := w2) (blk0 xg2 gg (by omega)) o2'.sl.cell (by simp)
      refine use1 e3 ?_
      simp only [run, Option.map_some, Nat.reduceEqDiff, Nat.reduceAdd, Nat.zero_add, ↓reduceIte, decide_eq_true_eq, decide_true, decide_false, Bool.not_true, Bool.not_false, Bool.true_eq_false, Bool.false_eq_true, List.getElem?_cons_zero, List.getElem?_cons_succ, List.nil_append, List.cons_append, reduceCtorEq, eq_self, decide_eq_false_iff_not, not_true_eq_false, not_false_eq_true, Nat.add_zero, Nat.succ_ne_self, Nat.one_ne_zero, Nat.zero_ne_one, e1, e4', e5', e6, a6]
      refine ⟨m - 1, by omega, i + 1, w2, by omega, (by first | rfl | trivial), (by first | rfl | trivial), (by first | rfl | trivial), (by first | rfl | trivial), ?_, b3', ?_⟩
      · exact xg.trans ((x2'.none.less (lo' := h2.next) (by omega)).trans (x3'.less (lo' := h2.next) (by omega)) (by omega)) (by omega)
      · rw [intsOf_succ]
        exact (o2'.ext x3' (Nat.le_refl _) (fun j h1 h2 (e : j = h0.next) => by omega))
    · have hi' : ((i : Int) < ((andN (shrI b 18) 7 : Nat) : Int)) = False := eq_false (by omega)
      obtain rfl : i = andN (shrI b 18) 7 := by omega
      simp only [run, Option.map_some, Nat.reduceEqDiff, Nat.reduceAdd, Nat.zero_add, ↓reduceIte, decide_eq_true_eq, decide_true, decide_false, Bool.not_true, Bool.not_false, Bool.true_eq_false, Bool.false_eq_true, List.getElem?_cons_zero, List.getElem?_cons_succ, List.nil_append, List.cons_append, reduceCtorEq, eq_self, decide_eq_false_iff_not, not_true_eq_false, not_false_eq_true, Nat.add_zero, Nat.succ_ne_self, Nat.one_ne_zero, Nat.zero_ne_one, hi', e1, e4', e5', e6]
      have xg0 := xg
      have gg0 := gg
      have og0 := og
      generalize w = w0 at *
      generalize g = gO at *
      have ngO := xg0.next
      have lgO : h0.next < gO.next := by omega
      refine w_loop (fun m E g => ∃ (i : Nat) (w : Value), i + m = andN (shrI b 21) 7 ∧ E 1 = .int .i64 b ∧ E 4 = .pointer (some ⟨h.next, 0, none⟩) ∧ E 5 = .pointer (some ⟨h0.next, 0, none⟩) ∧ E 8 = .int .i64 (i : Nat) ∧ Ext (one h0.next) gO.next gO g ∧
        g.get h0.next = ⟨[.int .i64 (kindOf a), .int .i64 ((andN (shrI a 3) 7 % 7 : Nat) : Int), .int .i64 ((andN (shrI a 6) 7 % 7 : Nat) : Int), .int .i64 (andN (shrI a 9) 1023), .int .i64 0, .int .i64 0, .bool false, .int .i64 0, .int .i64 0, .int .i64 0, .int .i64 0, .slice none 0 0, .int .i64 ((andN b 1023 : Nat) : Int), .int .i64 ((andN (shrI b 10) 255 : Nat) : Int), w0, w, .int .i64 0, .int .i64 0, .int .i64 0, .int .i64 0, .int .i64 0, .slice none 0 0, .slice none 0 0, .slice none 0 0], 24, 0, none⟩ ∧ OwnI gO.next g w (intsOf b 3 i)) (andN (shrI b 21) 7) (by omega) ?_ ?_
      · exact ⟨0, _, by omega, (by first | rfl | trivial), (by first | rfl | trivial), (by first | rfl | trivial), (by first | rfl | trivial), Ext.refl _ _ _, gg0, Own.nil⟩
      rintro m E g ⟨i, w, hm, e1, e4', e5', e6, xg, gg, og⟩
      have ng := xg.next
      simp only [run, Option.map_some, Nat.reduceEqDiff, Nat.reduceAdd, Nat.zero_add, ↓reduceIte, decide_eq_true_eq, decide_true, decide_false, Bool.not_true, Bool.not_false, Bool.true_eq_false, Bool.false_eq_true, List.getElem?_cons_zero, List.getElem?_cons_succ, List.nil_append, List.cons_append, reduceCtorEq, eq_self, decide_eq_false_iff_not, not_true_eq_false, not_false_eq_true, Nat.add_zero, Nat.succ_ne_self, Nat.one_ne_zero, Nat.zero_ne_one, masks, e1, e4', e5', e6]
      by_cases hi : i < andN (shrI b 21) 7
      · have hi' : ((i : Int) < ((andN (shrI b 21) 7 : Nat) : Int)) = True := eq_true (by omega)
        have L := ld_cell (o := 15) gg (by decide)
        have b0 : binV .add 0 (.int .i64 i) (.int .i64 3) = some (.int .i64 ((i + 3 : Nat) : Int)) := b_addN 0 (k := .i64) (a := i) (b := 3) (fits_i64 (by omega))
        have b1 : convV .u64 (.int .i64 ((i + 3 : Nat) : Int)) = some (.int .u64 ((i + 3 : Nat) : Int)) := convN (fits_u64 (by omega))
        have b2 : binV .shr 0 (.int .i64 b) (.int .u64 ((i + 3 : Nat) : Int)) = some (.int .i64 (shrI b (i + 3))) := b_shrI 0 b _ (by omega)
        have a6 : binV .add 0 (.int .i64 i) (.int .i64 1) = some (.int .i64 ((i + 1 : Nat) : Int)) := b_addN 0 (k := .i64) (a := i) (b := 1) (fits_i64 (by omega))
        simp only [run, Option.map_some, Nat.reduceEqDiff, Nat.reduceAdd, Nat.zero_add, ↓reduceIte, decide_eq_true_eq, decide_true, decide_false, Bool.not_true, Bool.not_false, Bool.true_eq_false, Bool.false_eq_true, List.getElem?_cons_zero, List.getElem?_cons_succ, List.nil_append, List.cons_append, reduceCtorEq, eq_self, decide_eq_false_iff_not, not_true_eq_false, not_false_eq_true, Nat.add_zero, Nat.succ_ne_self, Nat.one_ne_zero, Nat.zero_ne_one, masks, hi', e1, e4', e5', e6, L, b0, b1, b2]
        refine useE (bslice_one_int _ _ _) ?_
        simp only [run, Option.map_some, Nat.reduceEqDiff, Nat.reduceAdd, Nat.zero_add, ↓reduceIte, decide_eq_true_eq, decide_true, decide_false, Bool.not_true, Bool.not_false, Bool.true_eq_false, Bool.false_eq_true, List.getElem?_cons_zero, List.getElem?_cons_succ, List.nil_append, List.cons_append, reduceCtorEq, eq_self, decide_eq_false_iff_not, not_true_eq_false, not_false_eq_true, Nat.add_zero, Nat.succ_ne_self, Nat.one_ne_zero, Nat.zero_ne_one, e1, e4', e5', e6]
        refine use (append_int og (by omega) (by rw [intsOf_length]; omega)) ?_
        rintro w2 g2' ⟨x2', o2'⟩
        have n2' := x2'.next
        simp only [run, Option.map_some, Nat.reduceEqDiff, Nat.reduceAdd, Nat.zero_add, ↓reduceIte, decide_eq_true_eq, decide_true, decide_false, Bool.not_true, Bool.not_false, Bool.true_eq_false, Bool.false_eq_true, List.getElem?_cons_zero, List.getElem?_cons_succ, List.nil_append, List.cons_append, reduceCtorEq, eq_self, decide_eq_false_iff_not, not_true_eq_false, not_false_eq_true, Nat.add_zero, Nat.succ_ne_self, Nat.one_ne_zero, Nat.zero_ne_one, e1, e4', e5', e6]
        have xg2 : Ext no gO.next g g2' := x2'
        obtain ⟨g3, e3, m3, x3', b3'⟩ := stoC (o := 15) (v := w2) (blk0 xg2 gg (by omega)) o2'.sl.cell (by simp)
        refine use1 e3 ?_
        simp only [run, Option.map_some, Nat.reduceEqDiff, Nat.reduceAdd, Nat.zero_add, ↓reduceIte, decide_eq_true_eq, decide_true, decide_false, Bool.not_true, Bool.not_false, Bool.true_eq_false, Bool.false_eq_true, List.getElem?_cons_zero, List.getElem?_cons_succ, List.nil_append, List.cons_append, reduceCtorEq, eq_self, decide_eq_false_iff_not, not_true_eq_false, not_false_eq_true, Nat.add_zero, Nat.succ_ne_self, Nat.one_ne_zero, Nat.zero_ne_one, e1, e4', e5', e6, a6]
        refine ⟨m - 1, by omega, i + 1, w2, by omega, (by first | rfl | trivial), (by first | rfl | trivial), (by first | rfl | trivial), (by first | rfl | trivial), ?_, b3', ?_⟩
        · exact xg.trans ((x2'.none.less (lo' := gO.next) (by omega)).trans (x3'.less (lo' := gO.next) (by omega)) (by omega)) (by omega)
        · rw [intsOf_succ]
          exact (o2'.ext x3' (Nat.le_refl _) (fun j h1 h2 (e : j = h0.next) => by omega))
      · have hi' : ((i : Int) < ((andN (shrI b 21) 7 : Nat) : Int)) = False := eq_false (by omega)
        obtain rfl : i = andN (shrI b 21) 7 := by omega
        obtain ⟨g7, f1, f2, f3, f4, f5⟩ := fin g _ (xg0.trans xg (by omega)) gg (by
          unfold msgOf
          rw [if_neg c2]; rw [if_neg c3]; rw [if_neg c4]; rw [if_neg c5]; rw [if_pos c7]
          exact ⟨_, _, _, _, _, _, rfl, Sl.nil, (og0.sl.ext xg (Nat.le_refl _) (fun j j1 j2 (e : j = h0.next) => by omega)).more (Nat.le_refl _) (by omega), og.sl.more (by omega) (Nat.le_refl _), Sl.nil, Sl.nil, Sl.nil⟩)
        simp only [run, Option.map_some, Nat.reduceEqDiff, Nat.reduceAdd, Nat.zero_add, ↓reduceIte, decide_eq_true_eq, decide_true, decide_false, Bool.not_true, Bool.not_false, Bool.true_eq_false, Bool.false_eq_true, List.getElem?_cons_zero, List.getElem?_cons_succ, List.nil_append, List.cons_append, reduceCtorEq, eq_self, decide_eq_false_iff_not, not_true_eq_false, not_false_eq_true, Nat.add_zero, Nat.succ_ne_self, Nat.one_ne_zero, Nat.zero_ne_one, hi', e4', e5', f1, f2, f3]
        exact ⟨f4, _, rfl, f5⟩
  have c7' : (((kindOf a : Nat) : Int) = 7) = False := eq_false (by omega)
  by_cases c8 : kindOf a = 8
  · have c8' : (((kindOf a : Nat) : Int) = 8) = True := eq_true (by omega)
    have h63 := andN_le (shrI b 10) (b := 63) (by decide)
    simp only [run, Option.map_some, Nat.reduceEqDiff, Nat.reduceAdd, Nat.zero_add, ↓reduceIte, decide_eq_true_eq, decide_true, decide_false, Bool.not_true, Bool.not_false, Bool.true_eq_false, Bool.false_eq_true, List.getElem?_cons_zero, List.getElem?_cons_succ, List.nil_append, List.cons_append, reduceCtorEq, eq_self, decide_eq_false_iff_not, not_true_eq_false, not_false_eq_true, Nat.add_zero, Nat.succ_ne_self, Nat.one_ne_zero, Nat.zero_ne_one, masks, c2', c3', c4', c5', c7', c8']
    refine use (entry_spec (by omega) a _ (by omega) _) ?_
    rintro _ h3 ⟨x3, cs, rfl, re⟩
    have n3 := x3.next
    obtain ⟨ky, w, o, rfl, rk, rw_, ro⟩ := re
    obtain ⟨g4, e4, m4, y4, b4⟩ := stoC (o := 16) (v := .int .i64 ((andN b 1023 : Nat) : Int)) (blk0 x3 g2 (by omega)) rfl (by simp)
    have rk := rk.ext y4 (Nat.le_refl _) (fun j h1 h2 (e : j = h0.next) => by omega)
    have rw_ := rw_.ext y4 (Nat.le_refl _) (fun j h1 h2 (e : j = h0.next) => by omega)
    have ro := ro.ext y4 (Nat.le_refl _) (fun j h1 h2 (e : j = h0.next) => by omega)
    obtain ⟨g5, e5, m5, y5, b5⟩ := stoP (o := 17) (k := 7) (vs := [.int .i64 (entryOf a (andN (shrI b 10) 63)).sess, .int .i64 (entryOf a (andN (shrI b 10) 63)).seq, .int .i64 (entryOf a (andN (shrI b 10) 63)).kind, .int .i64 (entryOf a (andN (shrI b 10) 63)).who, ky, w, o]) b4 rfl (by simp) (by simp only [List.all_cons, List.all_nil, isCell_int, isCell_bool, isCell_slice, isCell_string, isCell_pointer, Bool.and_true, Bool.true_and, Bool.and_self, rk.cell, rw_.cell, ro.cell]) (by simp)
    have L5 := ld_cell (o := 20) b5 (by decide)
    obtain ⟨g6, e6, m6, y6, b6⟩ := stoC (o := 20) (v := .int .i64 (max (entryOf a (andN (shrI b 10) 63)).who 0)) b5 rfl (by simp [splice])
    have xg : Ext (one h0.next) h2.next h2 g6 := ((x3.none (S := one h0.next)).trans (y4.less (lo' := h2.next) (by omega)) (by omega)).trans ((y5.less (lo' := h2.next) (by omega)).trans (y6.less (lo' := h2.next) (by omega)) (by omega)) (by omega)
    have y46 := y5.trans y6 (by omega)
    have rk := (rk.ext y46 (by omega) (fun j h1 h2 (e : j = h0.next) => by omega)).more (show h0.next + 1 ≤ h2.next by omega) (show h3.next ≤ g6.next by omega)
    have rw_ := (rw_.ext y46 (by omega) (fun j h1 h2 (e : j = h0.next) => by omega)).more (show h0.next + 1 ≤ h2.next by omega) (show h3.next ≤ g6.next by omega)
    have ro := (ro.ext y46 (by omega) (fun j h1 h2 (e : j = h0.next) => by omega)).more (show h0.next + 1 ≤ h2.next by omega) (show h3.next ≤ g6.next by omega)
    obtain ⟨g7, f1, f2, f3, f4, f5⟩ := fin g6 _ xg b6 (by
      unfold msgOf
      rw [if_neg c2]; rw [if_neg c3]; rw [if_neg c4]; rw [if_neg c5]; rw [if_neg c7]; rw [if_pos c8]
      exact ⟨_, _, _, _, _, _, rfl, Sl.nil, Sl.nil, Sl.nil, rk, rw_, ro⟩)
    simp only [run, Option.map_some, Nat.reduceEqDiff, Nat.reduceAdd, Nat.zero_add, ↓reduceIte, decide_eq_true_eq, decide_true, decide_false, Bool.not_true, Bool.not_false, Bool.true_eq_false, Bool.false_eq_true, List.getElem?_cons_zero, List.getElem?_cons_succ, List.nil_append, List.cons_append, reduceCtorEq, eq_self, decide_eq_false_iff_not, not_true_eq_false, not_false_eq_true, Nat.add_zero, Nat.succ_ne_self, Nat.one_ne_zero, Nat.zero_ne_one, masks, e4]
    refine use1 e5 ?_
    simp only [run, Option.map_some, Nat.reduceEqDiff, Nat.reduceAdd, Nat.zero_add, ↓reduceIte, decide_eq_true_eq, decide_true, decide_false, Bool.not_true, Bool.not_false, Bool.true_eq_false, Bool.false_eq_true, List.getElem?_cons_zero, List.getElem?_cons_succ, List.nil_append, List.cons_append, reduceCtorEq, eq_self, decide_eq_false_iff_not, not_true_eq_false, not_false_eq_true, Nat.add_zero, Nat.succ_ne_self, Nat.one_ne_zero, Nat.zero_ne_one, masks, L5, splice, List.take, List.drop, List.set, List.append, List.length, List.cons_append, List.nil_append, List.getElem?_cons_succ, List.getElem?_cons_zero]
    refine use1 e6 ?_
    simp only [run, Option.map_some, Nat.reduceEqDiff, Nat.reduceAdd, Nat.zero_add, ↓reduceIte, decide_eq_true_eq, decide_true, decide_false, Bool.not_true, Bool.not_false, Bool.true_eq_false, Bool.false_eq_true, List.getElem?_cons_zero, List.getElem?_cons_succ, List.nil_append, List.cons_append, reduceCtorEq, eq_self, decide_eq_false_iff_not, not_true_eq_false, not_false_eq_true, Nat.add_zero, Nat.succ_ne_self, Nat.one_ne_zero, Nat.zero_ne_one, f1, f2, f3]
    exact ⟨f4, _, rfl, f5⟩
  have c8' : (((kindOf a : Nat) : Int) = 8) = False := eq_false (by omega)
  obtain ⟨g7, f1, f2, f3, f4, f5⟩ := fin h2 _ (Ext.refl _ _ _) g2 (by
    unfold msgOf
    rw [if_neg c2]; rw [if_neg c3]; rw [if_neg c4]; rw [if_neg c5]; rw [if_neg c7]; rw [if_neg c8]
    exact ⟨_, _, _, _, _, _, rfl, Sl.nil, Sl.nil, Sl.nil, Sl.nil, Sl.nil, Sl.nil⟩)
  simp only [run, Option.map_some, Nat.reduceEqDiff, Nat.reduceAdd, Nat.zero_add, ↓reduceIte, decide_eq_true_eq, decide_true, decide_false, Bool.not_true, Bool.not_false, Bool.true_eq_false, Bool.false_eq_true, List.getElem?_cons_zero, List.getElem?_cons_succ, List.nil_append, List.cons_append, reduceCtorEq, eq_self, decide_eq_false_iff_not, not_true_eq_false, not_false_eq_true, Nat.add_zero, Nat.succ_ne_self, Nat.one_ne_zero, Nat.zero_ne_one, masks, c2', c3', c4', c5', c7', c8', f1, f2, f3]
  exact ⟨f4, _, rfl, f5⟩
end Go.Proofs.Ytapmpenkceomdaa
/- Two messages are the same, whatever their kind is. -/
set_option linter.unusedSimpArgs false
set_option linter.unusedVariables false
set_option maxRecDepth 20000
namespace Go.Proofs.Ytapmpenkceomdaa
open Go.Ab

variable {n d : Nat} {h : AHeap}

def sameB (a b : Msg) : Bool := decide (a.kind = b.kind) && (List.range 8).all fun (k : Nat) => alikeB { a with kind := ((k + 1 : Nat) : Int) } { b with kind := ((k + 1 : Nat) : Int) }
theorem RepM.kinded {lo hi : Nat} {cs : List Value} {m : Msg} (r : RepM lo hi h cs m) (i : Int) : RepM lo hi h (cs.set 0 (.int .i64 i)) { m with kind := i } := by
  obtain ⟨a, b, c, k, v, o, rfl, h1⟩ := r
  exact ⟨a, b, c, k, v, o, rfl, h1⟩

theorem same_spec54 (hd : 5 ≤ d) (hn : 10 ≤ n) {cs ct : List Value} {a b : Msg} (ha : RepM 0 h.next h cs a) (hb : RepM 0 h.next h ct b) (hl1 : a.have_.length < n) (hl2 : a.need.length < n) (hl3 : a.have_.length ≤ 2 ^ 46) (hl4 : a.need.length ≤ 2 ^ 46) :
    ∃ v' h', aCall Try.prog n d 54 [.agg ⟨cs⟩, .agg ⟨ct⟩] h = some (v', h') ∧ v' = .bool (sameB a b) ∧ Ext no h.next h h' := by
  obtain ⟨d, rfl, hd⟩ := depth hd
  refine call_of t54 (Nat.le_of_ble_eq_true rfl) ?_
  simp only [c54, run, Option.map_some, Nat.reduceEqDiff, Nat.reduceAdd, Nat.zero_add, ↓reduceIte, decide_eq_true_eq, decide_true, decide_false, Bool.not_true, Bool.not_false, Bool.true_eq_false, Bool.false_eq_true, List.getElem?_cons_zero, List.getElem?_cons_succ, List.nil_append, List.cons_append, reduceCtorEq, eq_self, decide_eq_false_iff_not, not_true_eq_false, not_false_eq_true, Nat.add_zero, Nat.succ_ne_self, Nat.one_ne_zero, Nat.zero_ne_one, cells_agg]
  obtain ⟨h0, eh0, x0, n0, g0⟩ := boxed h ⟨cs, 24, 0, none⟩
  rw [eh0]
  obtain ⟨h1, eh1, x1, n1, g1⟩ := boxed h0 ⟨ct, 24, 0, none⟩
  rw [eh1]
  have g01 := blk0 x1 g0 (by omega)
  have xb : Ext no h.next h h1 := x0.trans x1 (by omega)
  refine w_loop (fun m E g => ∃ k : Nat, k + m = 8 ∧ E 2 = .pointer (some ⟨h.next, 0, none⟩) ∧ E 3 = .pointer (some ⟨h0.next, 0, none⟩) ∧ E 5 = .int .i64 ((k + 1 : Nat) : Int) ∧ Ext no h1.next h1 g ∧
    ∀ j, j < k → alikeB { a with kind := ((j + 1 : Nat) : Int) } { b with kind := ((j + 1 : Nat) : Int) } = true) 8 (by omega) ?_ ?_
  · exact ⟨0, by omega, rfl, rfl, rfl, Ext.refl _ _ _, fun j hj => by omega⟩
  rintro m E g ⟨k, hm, e2, e3, e5, xg, al⟩
  have ng := xg.next
  simp only [run, Option.map_some, Nat.reduceEqDiff, Nat.reduceAdd, Nat.zero_add, ↓reduceIte, decide_eq_true_eq, decide_true, decide_false, Bool.not_true, Bool.not_false, Bool.true_eq_false, Bool.false_eq_true, List.getElem?_cons_zero, List.getElem?_cons_succ, List.nil_append, List.cons_append, reduceCtorEq, eq_self, decide_eq_false_iff_not, not_true_eq_false, not_false_eq_true, Nat.add_zero, Nat.succ_ne_self, Nat.one_ne_zero, Nat.zero_ne_one, e2, e3, e5]
  have ga := blk0 xg g01 (by omega)
  have gb := blk0 xg g1 (by omega)
  have ra := (ha.keep (xb.trans xg (by omega)) (Nat.le_refl _))
  have rb := (hb.keep (xb.trans xg (by omega)) (Nat.le_refl _))
  have Wa := ld_whole (k := 24) ga (by decide) ra.length
  have Wb := ld_whole (k := 24) gb (by decide) rb.length
  by_cases hk : k < 8
  · have hk' : (((k + 1 : Nat) : Int) ≤ 8) = True := eq_true (by omega)
    have a6 : binV .add 0 (.int .i64 ((k + 1 : Nat) : Int)) (.int .i64 1) = some (.int .i64 ((k + 1 + 1 : Nat) : Int)) := b_addN 0 (k := .i64) (a := k + 1) (b := 1) (fits_i64 (by omega))
    simp only [run, Option.map_some, Nat.reduceEqDiff, Nat.reduceAdd, Nat.zero_add, ↓reduceIte, decide_eq_true_eq, decide_true, decide_false, Bool.not_true, Bool.not_false, Bool.true_eq_false, Bool.false_eq_true, List.getElem?_cons_zero, List.getElem?_cons_succ, List.nil_append, List.cons_append, reduceCtorEq, eq_self, decide_eq_false_iff_not, not_true_eq_false, not_false_eq_true, Nat.add_zero, Nat.succ_ne_self, Nat.one_ne_zero, Nat.zero_ne_one, rund, List.contains_cons, List.contains_nil, Nat.reduceBEq, Bool.and_true, Bool.true_and, Bool.and_false, Bool.false_and, Bool.or_false, Bool.or_true, Bool.false_or, Bool.true_or, true_or, or_true, true_and, and_true, beq_self_eq_true, e2, e3, e5, hk', Wa, Wb]
    obtain ⟨h3, eh3, x3, n3, g3⟩ := boxed g ⟨[.int .i64 0, .int .i64 0, .int .i64 0, .int .i64 0, .int .i64 0, .int .i64 0, .bool false, .int .i64 0, .int .i64 0, .int .i64 0, .int .i64 0, .slice none 0 0, .int .i64 0, .int .i64 0, .slice none 0 0, .slice none 0 0, .int .i64 0, .int .i64 0, .int .i64 0, .int .i64 0, .int .i64 0, .slice none 0 0, .slice none 0 0, .slice none 0 0], 24, 0, none⟩
    rw [eh3]
    obtain ⟨h4, eh4, x4, n4, g4⟩ := boxed h3 ⟨[.int .i64 0, .int .i64 0, .int .i64 0, .int .i64 0, .int .i64 0, .int .i64 0, .bool false, .int .i64 0, .int .i64 0, .int .i64 0, .int .i64 0, .slice none 0 0, .int .i64 0, .int .i64 0, .slice none 0 0, .slice none 0 0, .int .i64 0, .int .i64 0, .int .i64 0, .int .i64 0, .int .i64 0, .slice none 0 0, .slice none 0 0, .slice none 0 0], 24, 0, none⟩
    rw [eh4]
    have g34 := blk0 x4 g3 (by omega)
    obtain ⟨h5, eh5, n5, x5, g5⟩ := stoW (k := 24) g34 ra.length rfl ra.cells ra.ne
    obtain ⟨h6, eh6, n6, x6, g6⟩ := stoW (k := 24) (blk x5 g4 (by omega) (show ¬ h3.next = g.next by omega)) rb.length rfl rb.cells rb.ne
    have g56 := blk x6 g5 (by omega) (show ¬ g.next = h3.next by omega)
    obtain ⟨h7, eh7, n7, x7, g7⟩ := stoC (o := 0) (v := .int .i64 ((k + 1 : Nat) : Int)) g56 rfl (by rw [ra.length]; decide)
    obtain ⟨h8, eh8, n8, x8, g8⟩ := stoC (o := 0) (v := .int .i64 ((k + 1 : Nat) : Int)) (blk x7 g6 (by omega) (show ¬ h3.next = g.next by omega)) rfl (by rw [rb.length]; decide)
    have g78 := blk x8 g7 (by omega) (show ¬ g.next = h3.next by omega)
    have xq : Ext no g.next g h8 := ((((x3.trans x4 (by omega)).then x5 (by omega) (fun m hm (e : m = g.next) => by omega)).then x6 (by omega) (fun m hm (e : m = h3.next) => by omega)).then x7 (by omega) (fun m hm (e : m = g.next) => by omega)).then x8 (by omega) (fun m hm (e : m = h3.next) => by omega)
    have ra8 := ((ra.keep xq (by omega)).kinded ((k + 1 : Nat) : Int)).more (Nat.le_refl 0) (show h.next ≤ h8.next by omega)
    have rb8 := ((rb.keep xq (by omega)).kinded ((k + 1 : Nat) : Int)).more (Nat.le_refl 0) (show h.next ≤ h8.next by omega)
    have W7 := ld_whole (k := 24) g78 (by decide) ra8.length
    have W8 := ld_whole (k := 24) g8 (by decide) rb8.length
    have xq5 : Ext no g.next g h5 := (x3.trans x4 (by omega)).then x5 (by omega) (fun m hm (e : m = g.next) => by omega)
    have Wb5 := ld_whole (k := 24) (blk0 xq5 gb (by omega)) (by decide) rb.length
    refine useM eh5 ?_
    simp only [run, Option.map_some, Nat.reduceEqDiff, Nat.reduceAdd, Nat.zero_add, ↓reduceIte, decide_eq_true_eq, decide_true, decide_false, Bool.not_true, Bool.not_false, Bool.true_eq_false, Bool.false_eq_true, List.getElem?_cons_zero, List.getElem?_cons_succ, List.nil_append, List.cons_append, reduceCtorEq, eq_self, decide_eq_false_iff_not, not_true_eq_false, not_false_eq_true, Nat.add_zero, Nat.succ_ne_self, Nat.one_ne_zero, Nat.zero_ne_one, rund, List.contains_cons, List.contains_nil, Nat.reduceBEq, Bool.and_true, Bool.true_and, Bool.and_false, Bool.false_and, Bool.or_false, Bool.or_true, Bool.false_or, Bool.true_or, true_or, or_true, true_and, and_true, beq_self_eq_true, e2, e3, e5, Wb5, rb.beq, and_true, true_and]
    refine useM eh6 ?_
    simp only [run, Option.map_some, Nat.reduceEqDiff, Nat.reduceAdd, Nat.zero_add, ↓reduceIte, decide_eq_true_eq, decide_true, decide_false, Bool.not_true, Bool.not_false, Bool.true_eq_false, Bool.false_eq_true, List.getElem?_cons_zero, List.getElem?_cons_succ, List.nil_append, List.cons_append, reduceCtorEq, eq_self, decide_eq_false_iff_not, not_true_eq_false, not_false_eq_true, Nat.add_zero, Nat.succ_ne_self, Nat.one_ne_zero, Nat.zero_ne_one, rund, List.contains_cons, List.contains_nil, Nat.reduceBEq, Bool.and_true, Bool.true_and, Bool.and_false, Bool.false_and, Bool.or_false, Bool.or_true, Bool.false_or, Bool.true_or, true_or, or_true, true_and, and_true, beq_self_eq_true, e2, e3, e5]
    refine use1 eh7 ?_
    simp only [run, Option.map_some, Nat.reduceEqDiff, Nat.reduceAdd, Nat.zero_add, ↓reduceIte, decide_eq_true_eq, decide_true, decide_false, Bool.not_true, Bool.not_false, Bool.true_eq_false, Bool.false_eq_true, List.getElem?_cons_zero, List.getElem?_cons_succ, List.nil_append, List.cons_append, reduceCtorEq, eq_self, decide_eq_false_iff_not, not_true_eq_false, not_false_eq_true, Nat.add_zero, Nat.succ_ne_self, Nat.one_ne_zero, Nat.zero_ne_one, rund, List.contains_cons, List.contains_nil, Nat.reduceBEq, Bool.and_true, Bool.true_and, Bool.and_false, Bool.false_and, Bool.or_false, Bool.or_true, Bool.false_or, Bool.true_or, true_or, or_true, true_and, and_true, beq_self_eq_true, e2, e3, e5]
    refine use1 eh8 ?_
    simp only [run, Option.map_some, Nat.reduceEqDiff, Nat.reduceAdd, Nat.zero_add, ↓reduceIte, decide_eq_true_eq, decide_true, decide_false, Bool.not_true, Bool.not_false, Bool.true_eq_false, Bool.false_eq_true, List.getElem?_cons_zero, List.getElem?_cons_succ, List.nil_append, List.cons_append, reduceCtorEq, eq_self, decide_eq_false_iff_not, not_true_eq_false, not_false_eq_true, Nat.add_zero, Nat.succ_ne_self, Nat.one_ne_zero, Nat.zero_ne_one, rund, List.contains_cons, List.contains_nil, Nat.reduceBEq, Bool.and_true, Bool.true_and, Bool.and_false, Bool.false_and, Bool.or_false, Bool.or_true, Bool.false_or, Bool.true_or, true_or, or_true, true_and, and_true, beq_self_eq_true, e2, e3, e5, W7, W8]
    refine use (alike_spec (by omega) ra8 rb8 hl1 hl2 hl3 hl4) ?_
    rintro _ h9 ⟨rfl, x9⟩
    have n9 := x9.next
    cases hq : alikeB { a with kind := ((k + 1 : Nat) : Int) } { b with kind := ((k + 1 : Nat) : Int) } with
    | false =>
      simp only [run, Option.map_some, Nat.reduceEqDiff, Nat.reduceAdd, Nat.zero_add, ↓reduceIte, decide_eq_true_eq, decide_true, decide_false, Bool.not_true, Bool.not_false, Bool.true_eq_false, Bool.false_eq_true, List.getElem?_cons_zero, List.getElem?_cons_succ, List.nil_append, List.cons_append, reduceCtorEq, eq_self, decide_eq_false_iff_not, not_true_eq_false, not_false_eq_true, Nat.add_zero, Nat.succ_ne_self, Nat.one_ne_zero, Nat.zero_ne_one, hq]
      refine ⟨?_, (xb.trans xg (by omega)).trans (xq.trans x9 (by omega)) (by omega)⟩
      have : (List.range 8).all (fun (k : Nat) => alikeB { a with kind := ((k + 1 : Nat) : Int) } { b with kind := ((k + 1 : Nat) : Int) }) = false := by
        rw [List.all_eq_false]
        exact ⟨k, by simpa using hk, by rw [hq]; decide⟩
      simp only [sameB, this, Bool.and_false]
    | true =>
      simp only [run, Option.map_some, Nat.reduceEqDiff, Nat.reduceAdd, Nat.zero_add, ↓reduceIte, decide_eq_true_eq, decide_true, decide_false, Bool.not_true, Bool.not_false, Bool.true_eq_false, Bool.false_eq_true, List.getElem?_cons_zero, List.getElem?_cons_succ, List.nil_append, List.cons_append, reduceCtorEq, eq_self, decide_eq_false_iff_not, not_true_eq_false, not_false_eq_true, Nat.add_zero, Nat.succ_ne_self, Nat.one_ne_zero, Nat.zero_ne_one, hq, e2, e3, e5, a6]
      refine ⟨m - 1, by omega, k + 1, by omega, (by first | rfl | trivial), (by first | rfl | trivial), (by first | rfl | trivial), xg.trans (xq.trans x9 (by omega)) (by omega), ?_⟩
      intro j hj
      by_cases e : j = k
      · rw [e]; exact hq
      · exact al j (by omega)
  · have hk' : (((k + 1 : Nat) : Int) ≤ 8) = False := eq_false (by omega)
    obtain rfl : k = 8 := by omega
    obtain ⟨p1, p2, p3, p4, p5, p6, rfl, _⟩ := ra
    obtain ⟨q1, q2, q3, q4, q5, q6, rfl, _⟩ := rb
    have La := fun i => ld_cell (o := i) ga (by decide)
    have Lb := fun i => ld_cell (o := i) gb (by decide)
    simp only [run, Option.map_some, Nat.reduceEqDiff, Nat.reduceAdd, Nat.zero_add, ↓reduceIte, decide_eq_true_eq, decide_true, decide_false, Bool.not_true, Bool.not_false, Bool.true_eq_false, Bool.false_eq_true, List.getElem?_cons_zero, List.getElem?_cons_succ, List.nil_append, List.cons_append, reduceCtorEq, eq_self, decide_eq_false_iff_not, not_true_eq_false, not_false_eq_true, Nat.add_zero, Nat.succ_ne_self, Nat.one_ne_zero, Nat.zero_ne_one, hk', e2, e3, La, Lb]
    refine ⟨?_, xb.trans xg (by omega)⟩
    have : (List.range 8).all (fun (k : Nat) => alikeB { a with kind := ((k + 1 : Nat) : Int) } { b with kind := ((k + 1 : Nat) : Int) }) = true := by
      rw [List.all_eq_true]
      intro j hj
      exact al j (by simpa using hj)
    simp only [sameB, this, Bool.and_true]
end Go.Proofs.Ytapmpenkceomdaa
