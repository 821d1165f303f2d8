/-
  Rows that grow by append; bytes that become strings; no condition.
-/
import Derived.Test.YtkeomdnlibchcaaGreatAiVb
namespace Go.Ai
noncomputable section
variable {E : Env} {H : AHeap}

/-- What is known of the types of an append. -/
structure AppT (E : Env) (sT xT : TypeId) (e : TypeId) (size : Nat) : Prop where
  h : ∃ by_ z, E.u sT = some (.slice e) ∧ E.sz e = some size ∧ E.bytes e = some by_ ∧ E.z e = some z ∧ (E.u xT = some .string ∨ ∃ e', E.u xT = some (.slice e')) ∧
    (true && Nat.blt 0 size && scalar z && Nat.beq (llen (vcells z)) size && Nat.ble by_ 4096) = true

/-- A slice that a function grows by itself: nil, or a row without room behind. -/
inductive Buf (H : AHeap) (e size : Nat) : Value → List Value → Nat → Prop
  | nil : Buf H e size (.slice none 0 0) [] 0
  | row (id : Nat) (l : List Value) (len : Nat) (h : Row H id l e size (0, 0)) (hl : l.length = len * size) (hid : id < H.next) (hp : 0 < len) : Buf H e size (.slice (some ⟨id, 0, none⟩) len len) l len

/-- The block that a slice names. -/
def names (s : Value) (j : Nat) : Prop := match s with
  | .slice (some a) _ _ => a.block = j
  | _ => False

theorem names_uniq {s : Value} {i j : Nat} (h : names s i) (k : names s j) : i = j := by
  unfold names at h k
  split at h
  · exact h.symm.trans k
  · exact h.elim
theorem Buf.of_get {H' : AHeap} {e size len : Nat} {s : Value} {l : List Value} (h : Buf H e size s l len) (hg : ∀ j, names s j → j < H.next → H'.get j = H.get j) (hn : H.next ≤ H'.next) : Buf H' e size s l len := by
  cases h with
  | nil => exact .nil
  | row id l len h hl hid hp => exact .row id l len (h.of_get (hg id rfl hid)) hl (Nat.lt_of_lt_of_le hid hn) hp

theorem Buf.one {e size len : Nat} {s : Value} {l : List Value} (h : Buf H e size s l len) : vcells s = [s] ∧ cellOk s = true := by
  cases h <;> exact ⟨rfl, rfl⟩
theorem Buf.len {e size len : Nat} {s : Value} {l : List Value} (h : Buf H e size s l len) : l.length = len * size := by
  cases h with
  | nil => simp
  | row id l len h hl hid hp => exact hl
theorem Buf.inv {e size len : Nat} {s : Value} {l : List Value} (h : Buf H e size s l len) : (s = .slice none 0 0 ∧ l = [] ∧ len = 0) ∨ ∃ id, s = .slice (some ⟨id, 0, none⟩) len len ∧ Row H id l e size (0, 0) ∧ l.length = len * size ∧ id < H.next ∧ 0 < len := by
  cases h with
  | nil => exact .inl ⟨rfl, rfl, rfl⟩
  | row id l len h hl hid hp => exact .inr ⟨id, rfl, h, hl, hid, hp⟩

theorem append_buf {sT xT : TypeId} {e size len n : Nat} {s x : Value} {l new : List Value} (hT : AppT E sT xT e size) (hs : Buf H e size s l len) (hn : alen x = some n) (hx : afirst H n size x = some new)
    (hok : ∀ v ∈ new, cellOk v = true) (hnl : new.length = n * size) (h0 : 0 < n) (hb : len + n ≤ 4294967296) :
    ∃ s' H', (aappend E sT (some xT)).f H s x = some (s', H') ∧ Buf H' e size s' (l ++ new) (len + n) ∧ (∀ j, ¬ names s j → j < H.next → H'.get j = H.get j) ∧ H'.next = H.next + 1 ∧ names s' H.next := by
  obtain ⟨by_, z, h1, h2, h3, h4, hxu, h5⟩ := hT.h
  have hok' : lall cellOk new = true := by rw [lall_eq, List.all_eq_true]; exact hok
  have hnl' : Nat.beq (llen new) (n * size) = true := by rw [llen_eq, hnl, Nat.beq_refl]
  have hb' : Nat.ble (len + n) 4294967296 = true := Nat.ble_eq_true_of_le hb
  have hcap : Nat.ble (len + n) len = false := by
    cases hh : Nat.ble (len + n) len with
    | false => rfl
    | true => have := Nat.le_of_ble_eq_true hh; omega
  have hcase : ∀ {R : Option (Value × AHeap)}, (∀ u, (E.u xT = some u ∧ (u = .string ∨ ∃ e', u = .slice e')) → (aappend E sT (some xT)).f H s x = R) → (aappend E sT (some xT)).f H s x = R := by
    intro R hR
    rcases hxu with hu | ⟨e', hu⟩
    · exact hR _ ⟨hu, .inl rfl⟩
    · exact hR _ ⟨hu, .inr ⟨e', rfl⟩⟩
  cases hs with
  | nil =>
    refine ⟨.slice (some ⟨H.next, 0, none⟩) (0 + n) (0 + n), H.new (cellsOfList new e size (0, 0)), ?_, ?_, fun j _ hj => by rw [AHeap.get_new, if_neg (by omega)], rfl, rfl⟩
    · refine hcase fun u ⟨hu, hk⟩ => ?_
      unfold aappend
      rcases hk with rfl | ⟨e', rfl⟩
      all_goals
        simp only [h1, h2, h3, h4, hu]
        rw [h5]
        simp only [cond_true, hn, hx, hok', hnl', Bool.and_true, hcap, cond_false, hb', agrow]
        rfl
    · rw [List.nil_append]
      refine .row H.next new (0 + n) ?_ (by rw [hnl, Nat.zero_add]) (by simp) (by omega)
      have := row_list (H := H) (e := e) (g := size) (fz := (0, 0)) new []
      rw [← llen_eq] at this
      exact this
  | row id l len h hl hid hp =>
    obtain ⟨c, zz, a1, a2⟩ := h.h
    have b0 : Nat.blt 0 size = true := by
      simp only [Bool.and_eq_true] at h5
      exact h5.1.1.1.2
    have hpos := blt_lt b0
    have e1 : Nat.ble (0 + len * size) l.length = true := Nat.ble_eq_true_of_le (by omega)
    have e2 : (Nat.beq size 0 || (Nat.beq size size && !Nat.beq (0 + len * size) l.length)) = false := by
      have : Nat.beq size 0 = false := by cases size with
        | zero => omega
        | succ n => rfl
      rw [this, Nat.zero_add, hl, Nat.beq_refl, Nat.beq_refl]; rfl
    have e3 : (Nat.beq e e && (Nat.beq size size && Nat.ble 0 (0 + len * size) && (Nat.beq 0 0 || Nat.beq 0 0))) = true := by
      rw [Nat.beq_refl, Nat.beq_refl, Nat.ble_eq_true_of_le (Nat.zero_le _)]; rfl
    have hag : agrow H e size (some ⟨id, 0, none⟩) len len new = some ((H.set id .dead).new (.cells (wrT c (len * size) new) (len * size + llen new) zz e size (0, 0))) := by
      unfold agrow
      simp only [a1, e1, cond_true]
      have c0 : cond (Nat.beq 0 0) c (T.ofList (listAt c zz 0 (len * size)) 0 .leaf) = c := rfl
      have z0 : cond (Nat.beq 0 0) zz [] = zz := rfl
      simp only [c0, z0, e2, cond_false, e3, cond_true]
    refine ⟨.slice (some ⟨H.next, 0, none⟩) (len + n) (len + n), (H.set id .dead).new (.cells (wrT c (len * size) new) (len * size + llen new) zz e size (0, 0)), ?_, ?_, fun j hj hlt => ?_, rfl, rfl⟩
    · refine hcase fun u ⟨hu, hk⟩ => ?_
      unfold aappend
      rcases hk with rfl | ⟨e', rfl⟩
      all_goals
        simp only [h1, h2, h3, h4, hu]
        rw [h5]
        simp only [cond_true, hn, hx, hok', hnl', Bool.and_true, hcap, cond_false, hb', hag]
        rfl
    · refine .row H.next (l ++ new) (len + n) ?_ (by rw [List.length_append, hnl, hl, Nat.add_mul]) (by simp) (by omega)
      have hlen : (l ++ new).length = len * size + llen new := by rw [List.length_append, llen_eq, hl]
      have := row_new (H := H.set id .dead) (l := l ++ new) (e := e) (g := size) (fz := (0, 0)) (c := wrT c (len * size) new) (z := zz) fun j v hj => by
        rw [cellAt_wrT]
        by_cases hw : len * size ≤ j ∧ j < len * size + new.length
        · rw [dif_pos hw]
          rw [List.getElem?_append_right (by omega)] at hj
          rw [List.getElem?_eq_getElem (by omega)] at hj
          have := Option.some.inj hj
          rw [← this]
          congr 1
          omega
        · rw [dif_neg hw]
          apply a2
          have hlt := (List.getElem?_eq_some_iff.1 hj).1
          rw [List.length_append] at hlt
          rw [List.getElem?_append_left (by omega)] at hj
          exact hj
      rw [hlen] at this
      exact this
    · have : j ≠ id := fun hh => hj hh.symm
      rw [AHeap.get_new, if_neg (by simp; omega), AHeap.get_set, if_neg this]

/-- The first of a row. -/
theorem afirst_row {id e g len cap n size : Nat} {l : List Value} {fz : Nat × Nat} (h : Row H id l e g fz) (hn : n * size ≤ l.length) : afirst H n size (.slice (some ⟨id, 0, none⟩) len cap) = some (l.take (n * size)) := by
  obtain ⟨c, z, a1, a2⟩ := h.h
  unfold afirst
  simp only [a1, rd]
  rw [show Nat.ble (0 + n * size) l.length = true from Nat.ble_eq_true_of_le (by omega)]
  rw [Row.listAt a2 _ _ (by omega)]
  simp

section
variable {P : Program} {o : Oper} {c : Call} {a : AAct} {x y : Operand} {v vx vy : Value} {H' : AHeap} {t xt : TypeId}
theorem rf_append (ho : o.op = .call c) (hc : c.callee = .builtin .append) (ha : c.args = #[x, y]) (ht : c.argTypes = #[t, xt]) (hx : (rv x).f a = vx) (hy : (rv y).f a = vy) (h : (aappend E t (some xt)).f H vx vy = some (v, H')) : ∀ K : VK, K v H' → (reff E o.op).f (Does P) a H K := by
  intro K hK
  rw [ho]
  simp only [reff, hc, acallB, ha, ht]
  show aVs ((aappend E t (some xt)).f H ((rv x).f a) ((rv y).f a)) K
  rw [hx, hy, h]
  exact hK

/-- Bytes, as values. -/
def byV (l : List UInt8) : List Value := l.map fun b => .int .u8 b.toNat
theorem byV_length (l : List UInt8) : (byV l).length = l.length := by simp [byV]
theorem byV_append (l m : List UInt8) : byV (l ++ m) = byV l ++ byV m := by simp [byV]
theorem bytesOf_byV : ∀ l : List UInt8, bytesOf? (byV l) = some l
  | [] => rfl
  | b :: l => by
    show (match byteOf? (.int .u8 b.toNat), bytesOf? (byV l) with | some b, some bs => some (b :: bs) | _, _ => none) = _
    rw [bytesOf_byV l]
    simp [byteOf?]

theorem rf_string {l : List UInt8} {e : TypeId} {vn : Value} {vp : Value} {pt : TypeId} {nt : TypeId} (ho : o.op = .call c) (hc : c.callee = .builtin .unsafeString) (ha : c.args = #[x, y]) (ht : c.argTypes = #[pt, nt]) (hx : (rv x).f a = vp) (hy : (rv y).f a = vn)
    (hn : vn = .int .i64 l.length) (hp : (vp = .pointer none ∧ l = [] ∧ H' = H) ∨ (l ≠ [] ∧ ∃ id, vp = .pointer (some ⟨id, 0, none⟩) ∧ Row H id (byV l) e 1 (0, 0) ∧ ∃ c z, H.get id = some (.cells c l.length z e 1 (0, 0)) ∧ H' = H.set id (.cells c l.length z e 1 (0, l.length))))
    (hu : E.u pt = some (.pointer e)) (hce : E.P.cellsOf e = 1) (hl : l.length < 2 ^ 62) : ∀ K : VK, K (.string ⟨⟨l⟩⟩) H' → (reff E o.op).f (Does P) a H K := by
  intro K hK
  rw [ho]
  simp only [reff, hc, acallB, ha, ht]
  show aVs (astring E H pt ((rv x).f a) ((rv y).f a)) K
  rw [hx, hy, hn]
  have hnat : nat? (.int .i64 (l.length : Int)) = some l.length := rfl
  rcases hp with ⟨rfl, rfl, rfl⟩ | ⟨hne, id, rfl, hr, cc, z, hg, rfl⟩
  · exact hK
  · unfold astring
    simp only [hnat, hg, hu]
    have h0 : l.length ≠ 0 := by simpa using hne
    rw [if_neg h0, if_pos ⟨trivial, hce, Nat.le_refl _, Nat.zero_le _, hl⟩]
    obtain ⟨c2, z2, g1, g2⟩ := hr.h
    rw [byV_length, hg] at g1
    cases g1
    have : rd cc l.length z 0 l.length = some (byV l) := by
      unfold rd
      rw [show Nat.ble (0 + l.length) l.length = true from Nat.ble_eq_true_of_le (by omega)]
      rw [Row.listAt g2 _ _ (by rw [byV_length]; omega)]
      simp only [cond_true, List.drop_zero]
      rw [List.take_of_length_le (by rw [byV_length]; exact Nat.le_refl _)]
    rw [this]
    simp only [bytesOf_byV, Option.map_some, aVs, if_true, Nat.zero_add]
    exact hK
end
end
end Go.Ai
