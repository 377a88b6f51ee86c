/- Slices, bytes to a string, append, clear. -/
import Derived.Test.YtapmpenkceomdaaAb6
import Derived.Laws.BytesString
namespace Go.Ab
variable {P : Program} {F : Fm} {w0 w : World} {β : Inj} {g : AHeap} {lim : Nat}

/-- an operand that may lack -/
def OptR (β : Inj) : Option Value → Option Value → Prop
  | none, none => True
  | some v, some v' => VR β v v'
  | _, _ => False

theorem TR.optR {T : TS} {a : Act} (h : TR β T a.tmps) {x : Option Operand} {v : Option Value} (hx : Ab.evOpt T x = some v) : OptR β v (x.map a.eval) := by
  have := h.evOpt hx
  cases v with
  | none => simp only at this; rw [this]; trivial
  | some v => obtain ⟨v', e, hv⟩ := this; rw [e]; exact hv

theorem simBound {x x' : Value} {d y y' n : Nat} {code : BoundsCode} (hx : VR β x x') (h : aBound (some x) d y = some n) (hy : y ≤ y') : (Instr.sliceBound x' y' code).run P w = .ok n w ∧ n ≤ y := by
  unfold aBound at h
  split at h
  · cases ‹some x = none›
  · rename_i k i e
    cases e
    have := hx.int_inv; subst this
    split at h
    · rename_i hc
      cases h
      refine ⟨?_, by omega⟩
      unfold Instr.sliceBound
      have : 0 ≤ i ∧ i ≤ (y' : Int) := by omega
      simp only [asIntOf, pure_bind, if_pos this, Sem.run_pure]
    · cases h
  · cases h

/-- a bound that may lack, as the model reads it -/
theorem optBound {x x' : Option Value} {d y y' n : Nat} (hx : OptR β x x') (h : aBound x d y = some n) (hy : y ≤ y') :
    (x = none ∧ x' = none ∧ n = d) ∨ (∃ v v', x = some v ∧ x' = some v' ∧ n ≤ y ∧ ∀ code, (Instr.sliceBound v' y' code).run P w = .ok n w) := by
  cases x with
  | none => cases x' with
    | none => simp only [aBound, Option.some.injEq] at h; exact .inl ⟨rfl, rfl, h.symm⟩
    | some _ => exact hx.elim
  | some v => cases x' with
    | none => exact hx.elim
    | some v' => exact .inr ⟨v, v', rfl, rfl, (simBound (P := P) (w := w) (code := .index) hx h hy).2, fun code => (simBound hx h hy).1⟩

theorem simSliceStr {t : TypeId} {s : ByteArray} {lo hi lo' hi' : Option Value} (hu : P.underlying t = some .string) (hlo : OptR β lo lo') (hhi : OptR β hi hi') {a b : Nat}
    (hb : aBound hi s.size s.size = some b) (ha : aBound lo 0 b = some a) : (Instr.sliceAt t (.string s) lo' hi' none).run P w = .ok (.string (s.extract a b)) w := by
  have key : (Instr.sliceBounds false s.size s.size lo' hi' none).run P w = .ok (a, b, s.size) w := by
    unfold Instr.sliceBounds
    rcases optBound (P := P) (w := w) hhi hb (Nat.le_refl _) with ⟨rfl, rfl, rfl⟩ | ⟨v, v', rfl, rfl, _, r⟩ <;>
      rcases optBound (P := P) (w := w) hlo ha (Nat.le_refl _) with ⟨rfl, rfl, rfl⟩ | ⟨u, u', rfl, rfl, _, r'⟩ <;>
      simp [*]
  unfold Instr.sliceAt
  rw [Sem.run_bind, run_under hu, Result.andThen_ok]
  simp only
  unfold Instr.slice
  rw [Sem.run_bind, run_under hu, Result.andThen_ok]
  simp only [Option.isSome_none, Bool.false_eq_true, if_false]
  rw [Sem.run_bind, key]
  rfl

theorem run_sliceBounds {len cap cap' : Nat} {lo hi mx lo' hi' mx' : Option Value} (hlo : OptR β lo lo') (hhi : OptR β hi hi') (hmx : OptR β mx mx') {l b m : Nat} (hcap : cap ≤ cap')
    (hm : aBound mx cap cap = some m) (hn : ¬ (mx.isSome && hi.isNone) = true) (hb : aBound hi len m = some b) (hl : aBound lo 0 b = some l) :
    ∃ m', (Instr.sliceBounds true len cap' lo' hi' mx').run P w = .ok (l, b, m') w ∧ m ≤ m' ∧ m ≤ cap ∧ m' ≤ cap' ∧ (m' = m ∨ m = cap ∧ m' = cap') ∧ l ≤ b := by
  have hlb : l ≤ b := by
    rcases optBound (P := P) (w := w) hlo hl (Nat.le_refl _) with ⟨_, _, rfl⟩ | ⟨_, _, _, _, h, _⟩ <;> omega
  rcases optBound (P := P) (w := w) hmx hm hcap with ⟨rfl, rfl, rfl⟩ | ⟨v, v', rfl, rfl, c, r⟩
  · refine ⟨cap', ?_, hcap, Nat.le_refl _, Nat.le_refl _, .inr ⟨rfl, rfl⟩, hlb⟩
    unfold Instr.sliceBounds
    rcases optBound (P := P) (w := w) hhi hb hcap with ⟨rfl, rfl, rfl⟩ | ⟨v, v', rfl, rfl, _, r⟩ <;>
      rcases optBound (P := P) (w := w) hlo hl (Nat.le_refl _) with ⟨rfl, rfl, rfl⟩ | ⟨u, u', rfl, rfl, _, r'⟩ <;>
      simp [*]
  · refine ⟨m, ?_, Nat.le_refl _, c, by omega, .inl rfl, hlb⟩
    unfold Instr.sliceBounds
    rcases optBound (P := P) (w := w) hhi hb (Nat.le_refl _) with ⟨rfl, rfl, rfl⟩ | ⟨v2, v2', rfl, rfl, _, r2⟩
    · simp at hn
    · rcases optBound (P := P) (w := w) hlo hl (Nat.le_refl _) with ⟨rfl, rfl, rfl⟩ | ⟨u, u', rfl, rfl, _, r'⟩ <;>
      simp [*]

theorem simSlice (H : HR F w0 w g.get β) {t : TypeId} {x x' v : Value} {lo hi mx lo' hi' mx' : Option Value} (hx : VR β x x') (hlo : OptR β lo lo') (hhi : OptR β hi hi') (hmx : OptR β mx mx')
    (h : aSlice P t x lo hi mx g = some v) : ∃ v', (Instr.sliceAt t x' lo' hi' mx').run P w = .ok v' w ∧ VR β v v' := by
  unfold aSlice at h
  split at h
  · rename_i s hu
    have := hx.string_inv; subst this
    split at h
    · cases h
    · cases mx' with
      | some _ => exact hmx.elim
      | none =>
        split at h
        · cases h
        · rename_i b hb
          split at h
          · cases h
          · rename_i a ha
            cases h
            exact ⟨_, simSliceStr hu hlo hhi hb ha, .closed _ rfl⟩
  · rename_i e ba len cap hu
    split at h
    · cases h
    · rename_i inf hinf
      split at h
      · cases h
      · rename_i m hm
        split at h
        · cases h
        · rename_i hn
          split at h
          · cases h
          · rename_i b hb
            split at h
            · cases h
            · rename_i l hl
              split at h
              · cases h
              · rename_i hbm
                have run : ∀ (a' : Option Addr) (cap' : Nat), x' = .slice a' len cap' → cap ≤ cap' →
                    ∃ m', (Instr.sliceAt t x' lo' hi' mx').run P w = .ok (.slice (if m' = l then a' else a'.map (·.add (l * inf.size))) (b - l) (m' - l)) w ∧ m ≤ m' ∧ m ≤ cap ∧ m' ≤ cap' ∧ (m' = m ∨ m = cap ∧ m' = cap') ∧ l ≤ b := by
                  intro a' cap' ex hc
                  subst ex
                  obtain ⟨m', r, c⟩ := run_sliceBounds (P := P) (w := w) hlo hhi hmx hc hm hn hb hl
                  refine ⟨m', ?_, c⟩
                  unfold Instr.sliceAt
                  rw [Sem.run_bind, run_under hu, Result.andThen_ok]
                  simp only
                  unfold Instr.slice
                  rw [Sem.run_bind, run_under hu, Result.andThen_ok]
                  simp only
                  rw [Sem.run_bind, r, Result.andThen_ok]
                  simp only
                  rw [Sem.run_bind, run_size hinf]
                  rfl
                split at h
                · cases h
                  obtain ⟨rfl, rfl, ex⟩ := hx.snil_inv
                  obtain ⟨m', r, c1, c2, c3, c4, c5⟩ := run none 0 ex (Nat.le_refl _)
                  have e1 : m' = 0 := by omega
                  have e2 : b - l = 0 := by omega
                  have e3 : m - l = 0 := by omega
                  have e4 : m' - l = 0 := by omega
                  refine ⟨_, r, ?_⟩
                  rw [e2, e3, e4]
                  have : (if m' = l then (none : Option Addr) else Option.map (fun x : Addr => x.add (l * inf.size)) none) = none := by split <;> rfl
                  rw [this]
                  exact .closed _ rfl
                · rename_i n off
                  split at h
                  · rename_i hcond
                    cases h
                    obtain ⟨_, ⟨rfl, rfl, a', ex⟩ | ⟨bi, cap', hβ, hc, hroom, hend, ex⟩⟩ := hx.sl_inv
                    · obtain ⟨m', r, c1, c2, c3, c4, c5⟩ := run (some a') 0 ex (Nat.le_refl _)
                      have e1 : m' = 0 := by omega
                      have e0 : l = 0 := by omega
                      have e2 : b - l = 0 := by omega
                      have e3 : m - l = 0 := by omega
                      have e4 : m' - l = 0 := by omega
                      refine ⟨_, r, ?_⟩
                      rw [e2, e3, e4, if_pos (by omega)]
                      exact .slz _ _ _
                    · obtain ⟨m', r, c1, c2, c3, c4, c5⟩ := run _ cap' ex hc
                      refine ⟨_, r, ?_⟩
                      by_cases hml : m' = l
                      · rw [if_pos hml]
                        have e2 : b - l = 0 := by omega
                        have e3 : m - l = 0 := by omega
                        have e4 : m' - l = 0 := by omega
                        rw [e2, e3, e4]
                        exact .slz _ _ _
                      · rw [if_neg hml]
                        simp only [Option.map_some, addr_add]
                        rw [Nat.add_assoc]
                        simp only at hroom hend hβ
                        rcases Nat.eq_zero_or_pos cap with h0 | hpos
                        · have e0 : l = 0 := by omega
                          subst e0
                          simp only [Nat.zero_mul, Nat.add_zero, Nat.sub_zero]
                          refine .sl n off bi b m m' hβ c1 ?_ ?_
                          · have := Nat.mul_le_mul_right bi.esz c3
                            omega
                          · rcases c4 with c4 | ⟨c4, c4'⟩
                            · exact .inl c4
                            · subst c4 c4'; exact hend
                        · have hes : inf.size = bi.esz := by
                            rcases hcond with h0 | ⟨hs, hz⟩
                            · omega
                            · obtain ⟨bi', arr, ty, fz, hb', B⟩ := H.blk n hs
                              rw [hβ] at hb'; cases hb'
                              rw [B.esz, hz]
                          rw [hes]
                          refine .sl n (off + l * bi.esz) bi (b - l) (m - l) (m' - l) hβ (by omega) ?_ ?_
                          · have h1 : l * bi.esz + (m' - l) * bi.esz = m' * bi.esz := by
                              rw [← Nat.add_mul]; congr 1; omega
                            have h2 := Nat.mul_le_mul_right bi.esz c3
                            omega
                          · rcases c4 with c4 | ⟨c4, c4'⟩
                            · left; rw [c4]
                            · rcases hend with hend | hend
                              · left; omega
                              · right
                                have h1 : l * bi.esz + (m - l) * bi.esz = m * bi.esz := by
                                  rw [← Nat.add_mul]; congr 1; omega
                                rw [c4] at h1 ⊢
                                omega
                  · cases h
                · cases h
  · cases h

theorem bytesOf_map : ∀ {l : List Value} {bs : List UInt8}, bytesOf l = some bs → ∃ ns : List Int, l = ns.map (Value.int .u8) ∧ bs = ns.map fun n => UInt8.ofNat n.toNat := by
  intro l
  induction l with
  | nil => intro bs h; simp only [bytesOf, Option.some.injEq] at h; subst h; exact ⟨[], rfl, rfl⟩
  | cons c l ih =>
    intro bs h
    cases c with
    | int k n =>
      cases k with
      | u8 =>
        simp only [bytesOf, Option.map_eq_some_iff] at h
        obtain ⟨bs', h', rfl⟩ := h
        obtain ⟨ns, rfl, rfl⟩ := ih h'
        exact ⟨n :: ns, rfl, rfl⟩
      | _ => simp [bytesOf] at h
    | _ => simp [bytesOf] at h

theorem foldl_push : ∀ (ns : List Int) (acc : ByteArray), ns.foldl (fun r n => r.push (UInt8.ofNat n.toNat)) acc = ⟨acc.data ++ (ns.map fun n => UInt8.ofNat n.toNat).toArray⟩ := by
  intro ns
  induction ns with
  | nil => intro acc; simp
  | cons n ns ih =>
    intro acc
    simp only [List.foldl_cons, ih]
    congr 1
    simp [ByteArray.push]

theorem LR.map_int {ns : List Int} {k : IntKind} {ys : List Value} (h : LR β (ns.map (Value.int k)) ys) : ys = ns.map (Value.int k) := by
  induction ns generalizing ys with
  | nil => exact h.of_nil
  | cons n ns ih =>
    obtain ⟨y, l, rfl, hy, hl⟩ := h.of_cons
    rw [hy.int_inv, ih hl]; rfl

/-- operations of kind 1 -/
theorem simLook (H : HR F w0 w g.get β) {T : TS} {a : Act} (hT : TR β T a.tmps) {o : Oper} {v : Value} (h : aLook P T g o.op = some v) :
    ∃ v', (execOp a.eval o).run P w = .ok (.value v') w ∧ VR β v v' := by
  have wrap : ∀ {s : Sem Value} {v' : Value}, s.run P w = .ok v' w → (do pure (Next.value (← s)) : Sem Next).run P w = .ok (.value v') w := by
    intro s v' hs; rw [Sem.run_bind, hs]; rfl
  unfold aLook at h
  split at h
  · rename_i t x ho
    split at h
    · rename_i va hx
      obtain ⟨v', h1, h2⟩ := simLoad H (hT.ev hx) h
      exact ⟨v', by simp only [execOp, ho]; exact wrap h1, h2⟩
    · cases h
  · rename_i t x lo hi mx ho
    split at h
    · rename_i vx vlo vhi vmx hx hlo hhi hmx
      obtain ⟨v', h1, h2⟩ := simSlice H (hT.ev hx) (hT.optR hlo) (hT.optR hhi) (hT.optR hmx) h
      exact ⟨v', by simp only [execOp, ho]; exact wrap h1, h2⟩
    · cases h
  · rename_i s d x ho
    split at h
    · rename_i e ba len cap hs hd hx
      split at h
      · rename_i he
        have hv := hT.ev hx
        split at h
        · cases h
          obtain ⟨rfl, rfl, ex⟩ := hv.snil_inv
          refine ⟨_, ?_, .closed _ rfl⟩
          simp only [execOp, ho]
          apply wrap
          rw [ex, run_convert_bytes_string w s d e none 0 0 hs he hd]
          rfl
        · rename_i n off
          split at h
          · rename_i l hl
            simp only [Option.map_eq_some_iff] at h
            obtain ⟨bs, hbs, rfl⟩ := h
            obtain ⟨ns, rfl, rfl⟩ := bytesOf_map hbs
            have fin : ∀ (a' : Addr) (c' : Nat), a.eval x = .slice (some a') len c' → (loadCells a' len).run P w = .ok (ns.map (Value.int .u8)).toArray w →
                (execOp a.eval o).run P w = .ok (.value (.string ⟨⟨ns.map fun n => UInt8.ofNat n.toNat⟩⟩)) w := by
              intro a' c' ex hc
              simp only [execOp, ho]
              apply wrap
              rw [ex, run_convert_bytes_string w s d e (some a') len c' hs he hd, run_bytesToString w a' len c' ns hc, foldl_push]
              congr 3
              show (#[] ++ (List.map (fun n => UInt8.ofNat n.toNat) ns).toArray : Array UInt8) = _
              simp
            refine ⟨_, ?_, .closed _ rfl⟩
            unfold AHeap.loadN at hl
            simp only at hl
            split at hl
            · rename_i hc
              obtain ⟨_, ⟨rfl, rfl, a', ex⟩ | ⟨bi, cap', hβ, _, _, _, ex⟩⟩ := hv.sl_inv
              · refine fin a' 0 ex ?_
                have : ns = [] := by
                  have := Option.some.inj hl
                  simp at this
                  exact this
                subst this
                rfl
              · refine fin _ cap' ex ?_
                obtain ⟨ys, y1, y2, y3⟩ := H.range hβ hc.1 hc.2
                rw [Option.some.inj hl] at y1
                have ey := y1.map_int
                have hrun := run_loadCells_list (P := P) w ⟨bi.cb, bi.co + off, none⟩ ys (fun j v hj => by rw [addr_add]; exact y3 j v hj)
                rw [y2] at hrun
                rw [← ey]; exact hrun
            · cases hl
          · cases h
        · cases h
      · cases h
    · cases h
  · cases h

/-! append -/
theorem growBy_le (n : Nat) : ∀ (r c : Nat), 256 ≤ c → c ≤ 2 * n → Builtin.growBy n r c ≤ 2 * n
  | 0, c, _, h => h
  | r + 1, c, h0, h => by
    unfold Builtin.growBy
    split
    · exact h
    · exact growBy_le n r _ (by omega) (by omega)

theorem nextslicecap_le {need cap : Nat} (h : cap < need) : Builtin.nextslicecap need cap ≤ 2 * need := by
  unfold Builtin.nextslicecap
  split
  · omega
  · split
    · omega
    · exact growBy_le need 4 cap (by omega) (by omega)

/-- what is appended -/
theorem simSource (H : HR F w0 w g.get β) {size n : Nat} {x x' : Value} {vs : List Value} (hx : VR β x x') (h : aSource size x g = some (n, vs)) :
    (Builtin.lenOf x').run P w = .ok n w ∧ vs.length = n * size ∧ ∃ ys : List Value, (∀ w', w'.heap = w.heap → (Builtin.firstCells size n x').run P w' = .ok ⟨ys⟩ w') ∧ LR β vs ys := by
  unfold aSource at h
  split at h
  · cases h
    obtain ⟨_, _, rfl⟩ := hx.snil_inv
    exact ⟨rfl, by simp, [], fun _ _ => rfl, .nil β⟩
  · rename_i nb off len cap
    split at h
    · rename_i h0
      subst h0
      cases h
      obtain ⟨_, ⟨_, _, a', rfl⟩ | ⟨bi, cap', _, _, _, _, rfl⟩⟩ := hx.sl_inv
      · exact ⟨rfl, by simp, [], fun w' _ => by simp [Builtin.firstCells, loadCells, loadCellsFrom], .nil β⟩
      · exact ⟨rfl, by simp, [], fun w' _ => by simp [Builtin.firstCells, loadCells, loadCellsFrom], .nil β⟩
    · rename_i h0
      simp only [Option.map_eq_some_iff] at h
      obtain ⟨l, hl, e⟩ := h
      cases e
      unfold AHeap.loadN at hl
      simp only at hl
      split at hl
      · rename_i hc
        obtain ⟨_, ⟨rfl, _, _, _⟩ | ⟨bi, cap', hβ, _, _, _, rfl⟩⟩ := hx.sl_inv
        · exact absurd rfl h0
        · obtain ⟨ys, y1, y2, y3⟩ := H.range hβ hc.1 hc.2
          rw [Option.some.inj hl] at y1
          refine ⟨rfl, by rw [y1.1, y2], ys, fun w' hw' => ?_, y1⟩
          have hrun := run_loadCells_list (P := P) w' ⟨bi.cb, bi.co + off, none⟩ ys (fun j v hj => by
            rw [addr_add]
            have := y3 j v hj
            rw [← this]; simp [World.cell?, hw'])
          rw [y2] at hrun
          exact hrun
      · cases hl
  · rename_i s
    have := hx.string_inv; subst this
    split at h
    · rename_i h1
      cases h
      subst h1
      refine ⟨rfl, by rw [List.length_map, Array.length_toList, Nat.mul_one]; rfl, _, fun w' _ => ?_, .closed (by rw [List.all_map]; exact List.all_eq_true.2 fun x _ => rfl)⟩
      simp only [Builtin.firstCells, Sem.run_pure]
      congr 1
      apply Array.ext'
      have : s.extract 0 s.size = s := ByteArray.extract_zero_size
      simp [this]
    · cases h
  · cases h

end Go.Ab
