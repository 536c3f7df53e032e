/- More operations that only compute. -/
import Derived.Test.YtdfbfcohindpnaaAmPrim3
set_option linter.unusedVariables false
set_option linter.unusedSimpArgs false
namespace Go.AM
open Go
section
variable {P : Program} {N : Nat} {φ : Phi} {fr : Frame} {m : Mem} {A : Act} {w : World} {o : Oper} {ao : AOp} {v : V} {m' : Mem}

theorem eqpack {t : TypeId} {cx cy : Value} {r : Bool} (h : ∀ D, (Op.equalIn (D + 1) t cx cy).run P w = .ok r w) (e1 : binOp .eql t cx cy = (do pure (.bool (← Op.equal t cx cy)))) (e2 : binOp .neq t cx cy = (do pure (.bool (!(← Op.equal t cx cy)))))
    (g : ∀ op, ∀ x y : Operand, (eqGuard op t x y cx cy).run P w = .ok () w) (x' y' : Operand) :
    ((binOp .eql t cx cy).run P w = .ok (.bool r) w ∧ (binOp .neq t cx cy).run P w = .ok (.bool (!r)) w) ∧
    ((eqGuard .eql t x' y' cx cy).run P w = .ok () w ∧ (eqGuard .neq t x' y' cx cy).run P w = .ok () w) := by
  have h' : (Op.equal t cx cy).run P w = .ok r w := h 9999
  refine ⟨⟨?_, ?_⟩, g _ _ _, g _ _ _⟩
  · rw [e1]; simp [h']
  · rw [e2]; simp [h']
/-- '==' and '!=' of values that are no whole numbers. -/
theorem eqV_sound {t : TypeId} {c : EqC} (hc : eqCls P t = some c) {x y : V} {cx cy : Value} (rx : R φ x cx) (ry : R φ y cy) {r : Bool} (h : eqV c x y = some r) (x' y' : Operand) :
    ((binOp .eql t cx cy).run P w = .ok (.bool r) w ∧ (binOp .neq t cx cy).run P w = .ok (.bool (!r)) w) ∧
    ((eqGuard .eql t x' y' cx cy).run P w = .ok () w ∧ (eqGuard .neq t x' y' cx cy).run P w = .ok () w) := by
  unfold eqCls at hc
  split at hc
  · rename_i hu
    cases hc
    cases x <;> cases y <;> simp only [eqV] at h <;> try cases h
    simp only [R] at rx ry
    subst rx; subst ry
    exact eqpack (fun D => by simp only [Op.equalIn, Sem.run_bind, run_underlying hu, Result.andThen_ok, Sem.run_pure]; rfl) (by simp only [binOp]) (by simp only [binOp]) (fun op x y => by cases op <;> simp [eqGuard]) x' y'
  · rename_i hu
    cases hc
    cases x <;> cases y <;> simp only [eqV] at h <;> try cases h
    · simp only [R] at rx ry
      subst rx; subst ry
      exact eqpack (fun D => by simp [Op.equalIn, run_underlying hu]) (by simp only [binOp]) (by simp only [binOp]) (fun op x y => by cases op <;> simp [eqGuard]) x' y'
    · simp only [R] at rx ry
      obtain ⟨p, _, rfl⟩ := ry
      subst rx
      exact eqpack (fun D => by simp [Op.equalIn, run_underlying hu]) (by simp only [binOp]) (by simp only [binOp]) (fun op x y => by cases op <;> simp [eqGuard]) x' y'
    · simp only [R] at rx ry
      obtain ⟨p, _, rfl⟩ := rx
      subst ry
      exact eqpack (fun D => by simp [Op.equalIn, run_underlying hu]) (by simp only [binOp]) (by simp only [binOp]) (fun op x y => by cases op <;> simp [eqGuard]) x' y'
  · rename_i hu
    cases hc
    cases x <;> cases y <;> simp only [eqV] at h <;> try cases h
    · simp only [R] at rx ry
      subst rx; subst ry
      exact eqpack (fun D => by simp [Op.equalIn, run_underlying hu]) (by simp only [binOp]) (by simp only [binOp]) (fun op x y => by cases op <;> simp [eqGuard]) x' y'
    · simp only [R] at rx ry
      obtain ⟨p, a, c, _, _, rfl, _⟩ := ry
      subst rx
      exact eqpack (fun D => by simp [Op.equalIn, run_underlying hu]) (by simp only [binOp]) (by simp only [binOp]) (fun op x y => by cases op <;> simp [eqGuard]) x' y'
    · simp only [R] at rx ry
      obtain ⟨p, a, c, _, _, rfl, _⟩ := rx
      subst ry
      exact eqpack (fun D => by simp [Op.equalIn, run_underlying hu]) (by simp only [binOp]) (by simp only [binOp]) (fun op x y => by cases op <;> simp [eqGuard]) x' y'
  · rename_i hu
    cases hc
    cases x <;> cases y <;> simp only [eqV] at h <;> try cases h
    · simp only [R] at rx ry
      subst rx; subst ry
      exact eqpack (fun D => by simp [Op.equalIn, run_underlying hu]) (by simp only [binOp]) (by simp only [binOp]) (fun op x y => by cases op <;> simp [eqGuard]) x' y'
    · simp only [R] at rx ry
      obtain ⟨p, a, rfl, _⟩ := ry
      subst rx
      exact eqpack (fun D => by simp [Op.equalIn, run_underlying hu]) (by simp only [binOp]) (by simp only [binOp]) (fun op x y => by cases op <;> simp [eqGuard]) x' y'
    · simp only [R] at rx ry
      obtain ⟨p, a, rfl, _⟩ := rx
      subst ry
      exact eqpack (fun D => by simp [Op.equalIn, run_underlying hu]) (by simp only [binOp]) (by simp only [binOp]) (fun op x y => by cases op <;> simp [eqGuard]) x' y'
  · rename_i fields hu
    split at hc
    · rename_i hg
      rw [Option.map_eq_some_iff] at hc
      obtain ⟨sh, hsh, rfl⟩ := hc
      cases x <;> cases y <;> simp only [eqV] at h <;> try cases h
      simp only [R] at rx ry
      obtain ⟨lx, rfl, hx⟩ := rx
      obtain ⟨ly, rfl, hy⟩ := ry
      have ha : aggT P t = some true := by simp [aggT, hu]
      have := flatShape_sound w 8 t sh hsh _ _ _ _ r _ _ hx hy h (.inl ⟨ha, rfl⟩) (.inl ⟨ha, rfl⟩) 10000 (by omega)
      refine ⟨⟨?_, ?_⟩, run_eqGuard_agg w _ t _ _ _ _ hg, run_eqGuard_agg w _ t _ _ _ _ hg⟩
      · rw [run_eql_struct, this]; rfl
      · rw [run_neq_struct, this]; rfl
    · cases hc
  · cases hc
theorem does_eq (hst : St φ m w) (hA : RF φ N fr A) {t u : TypeId} {x y : Operand} (ho : o.op = .binOp .eql t x y u) {c : EqC} (hc : eqCls P t = some c) {a b : Arg} (ha : argC N x = some a) (hb : argC N y = some b) {tgt : Option Nat} (hp : prim (.eq c a b) tgt fr m = some (v, m')) : Does0 P o A w φ m v m' := by
  simp only [prim] at hp
  rw [Option.map_eq_some_iff] at hp
  obtain ⟨q, hq, e⟩ := hp
  cases e
  rw [Option.map_eq_some_iff] at hq
  obtain ⟨r, hr, rfl⟩ := hq
  obtain ⟨⟨h1, _⟩, h2, _⟩ := eqV_sound (w := w) hc (argC_sound hA ha) (argC_sound hA hb) hr x y
  exact Does.quiet hst (by simp [execOp, ho, h1, h2]; rfl) (by simp [R])
theorem does_ne (hst : St φ m w) (hA : RF φ N fr A) {t u : TypeId} {x y : Operand} (ho : o.op = .binOp .neq t x y u) {c : EqC} (hc : eqCls P t = some c) {a b : Arg} (ha : argC N x = some a) (hb : argC N y = some b) {tgt : Option Nat} (hp : prim (.ne c a b) tgt fr m = some (v, m')) : Does0 P o A w φ m v m' := by
  simp only [prim] at hp
  rw [Option.map_eq_some_iff] at hp
  obtain ⟨q, hq, e⟩ := hp
  cases e
  rw [Option.map_eq_some_iff] at hq
  obtain ⟨r, hr, rfl⟩ := hq
  obtain ⟨⟨_, h1⟩, _, h2⟩ := eqV_sound (w := w) hc (argC_sound hA ha) (argC_sound hA hb) hr x y
  exact Does.quiet hst (by simp [execOp, ho, h1, h2]; rfl) (by simp [R])
theorem does_un (hst : St φ m w) (hA : RF φ N fr A) {op : UnOp} {t : TypeId} {x : Operand} (ho : o.op = .unOp op t x) {a : Arg} (ha : argC N x = some a) {tgt : Option Nat} (hp : prim (.un op a) tgt fr m = some (v, m')) : Does0 P o A w φ m v m' := by
  simp only [prim] at hp
  rw [Option.map_eq_some_iff] at hp
  obtain ⟨q, hq, e⟩ := hp
  cases e
  have rx := argC_sound hA ha
  unfold un at hq
  split at hq
  · rename_i k n hx
    cases hq
    rw [hx] at rx
    simp only [R] at rx
    exact Does.quiet hst (cv := .int k (k.wrap (0 - n))) (by simp [execOp, ho, rx, Op.unary, Op.intArith]) (by simp [R])
  · rename_i k n hx
    cases hq
    rw [hx] at rx
    simp only [R] at rx
    exact Does.quiet hst (cv := .int k (k.wrap (BitVec.ofInt k.bits (if k.signed then -1 else k.max) ^^^ BitVec.ofInt k.bits n).toNat)) (by simp [execOp, ho, rx, Op.unary, Op.intBits]) (by simp [R])
  · rename_i b hx
    cases hq
    rw [hx] at rx
    simp only [R] at rx
    exact Does.quiet hst (cv := .bool !b) (by simp [execOp, ho, rx, Op.unary]) (by simp [R])
  · cases hq
theorem does_conv (hst : St φ m w) (hA : RF φ N fr A) {s t : TypeId} {d : TypeDesc} {k : IntKind} {x : Operand} (ho : o.op = .convert s t x) (hs : P.underlying s = some d) (ht : P.underlying t = some (.int k)) {a : Arg} (ha : argC N x = some a) {tgt : Option Nat} (hp : prim (.conv k a) tgt fr m = some (v, m')) : Does0 P o A w φ m v m' := by
  simp only [prim] at hp
  split at hp
  · rename_i k' n hx
    cases hp
    have rx := argC_sound hA ha
    rw [hx] at rx
    simp only [R] at rx
    refine Does.quiet hst (cv := .int k (k.wrap n)) ?_ (by simp [R])
    simp [execOp, ho, rx, convert, run_underlying hs, run_underlying ht, Conv.intToInt]
  · cases hp
theorem does_mkfn (hst : St φ m w) (hA : RF φ N fr A) {f : Nat} {first cap : Array Operand} (ho : o.op = .makeFunc (.func f) first cap) {a b : List Arg} (ha : first.toList.mapM (argC N) = some a) (hb : cap.toList.mapM (argC N) = some b) {tgt : Option Nat} (hp : prim (.mkfn f a b) tgt fr m = some (v, m')) : Does0 P o A w φ m v m' := by
  simp only [prim] at hp
  cases hp
  refine Does.quiet hst (cv := .func (.func f) (first.map A.eval) (cap.map A.eval)) (by simp [execOp, ho, Instr.makeFunc]) ?_
  simp only [R]
  exact ⟨_, _, by simp; constructor <;> (apply Array.ext'; simp), argsC_sound hA ha, argsC_sound hA hb⟩
theorem does_fieldAddr (hst : St φ m w) (hA : RF φ N fr A) {s : TypeId} {x : Operand} {f : Nat} (ho : o.op = .fieldAddr s x f) {fields : Array Field} (hs : P.underlying s = some (.struct fields)) {fd : Field} (hf : fields[f]? = some fd) {n : Nat} (hn : sizeT P fd.type = some n) (h0 : n ≠ 0)
    {a : Arg} (ha : argC N x = some a) {tgt : Option Nat} (hp : prim (.fieldAddr fd.offset a) tgt fr m = some (v, m')) : Does0 P o A w φ m v m' := by
  simp only [prim] at hp
  split at hp
  · rename_i b i j hx
    cases hp
    have rx := argC_sound hA ha
    rw [hx] at rx
    simp only [R] at rx
    obtain ⟨p, hp, e⟩ := rx
    simp only [sizeT, Option.map_eq_some_iff] at hn
    obtain ⟨ti, hi, hsz⟩ := hn
    refine Does.quiet hst (cv := .pointer (some ⟨p.blk, p.base + i * p.esz + j + fd.offset, none⟩)) ?_ ?_
    · simp [execOp, ho, Instr.fieldAt, run_underlying hs, hf, e, Instr.sureAddr, fieldPlace, sizeOf, typeInfo, hi, hsz, h0, addr_add]
    · simp only [R]
      exact ⟨p, hp, by simp [Nat.add_assoc]⟩
  · cases hp
theorem partV_sound {t : TypeId} {k : Option Nat} (hk : kindT P t = some k) {cs : List V} {l : List Value} (h : Rs φ cs l) {off : Nat} (hv : part cs off k = some v) : ∃ c, (Go.part t l.toArray off).run P w = .ok c w ∧ R φ v c := by
  have hs := part_sound h hv
  cases k with
  | none =>
    obtain ⟨d, i, _, _, _, hag⟩ := kindT_none hk
    obtain ⟨c, h1, h2⟩ := hs
    refine ⟨c, ?_, h2⟩
    have : l.toArray[off]? = some c := by simpa using h1
    simp [Go.part, hag]
    simp at this
    simp [this]
  | some n =>
    obtain ⟨i, hi, hn, hag⟩ := kindT_some hk
    refine ⟨_, ?_, hs.2⟩
    simp only [Go.part, Sem.run_bind, hag, Result.andThen_ok, if_true, sizeOf, typeInfo, run_program, hi, Sem.run_pure, hn]
    congr 2
    apply Array.ext'
    simp
theorem does_field (hst : St φ m w) (hA : RF φ N fr A) {s : TypeId} {x : Operand} {f : Nat} (ho : o.op = .field s x f) {fields : Array Field} (hs : P.underlying s = some (.struct fields)) {fd : Field} (hf : fields[f]? = some fd) {k : Option Nat} (hk : kindT P fd.type = some k)
    {a : Arg} (ha : argC N x = some a) {tgt : Option Nat} (hp : prim (.field fd.offset k a) tgt fr m = some (v, m')) : Does0 P o A w φ m v m' := by
  simp only [prim] at hp
  split at hp
  · rename_i cs hx
    rw [Option.map_eq_some_iff] at hp
    obtain ⟨q, hq, e⟩ := hp
    cases e
    have rx := argC_sound hA ha
    rw [hx] at rx
    simp only [R] at rx
    obtain ⟨l, e, hl⟩ := rx
    obtain ⟨c, h1, h2⟩ := partV_sound (w := w) hk hl hq
    exact Does.quiet hst (by simp [execOp, ho, Instr.field, run_underlying hs, hf, e, asAgg, h1]) h2
  · cases hp
theorem does_indexAddr (hst : St φ m w) (hA : RF φ N fr A) {t e : TypeId} {x ix : Operand} (ho : o.op = .indexAddr t x ix) (ht : P.underlying t = some (.slice e)) {n : Nat} (hn : sizeT P e = some n) {a b : Arg} (ha : argC N x = some a) (hb : argC N ix = some b)
    {tgt : Option Nat} (hp : prim (.indexAddr n a b) tgt fr m = some (v, m')) : Does0 P o A w φ m v m' := by
  simp only [prim] at hp
  split at hp
  · rename_i b i len cap ex z k q hx hi
    split at hp
    · rename_i hc
      obtain ⟨h0, h1, rfl⟩ := hc
      cases hp
      have rx := argC_sound hA ha
      have ri := argC_sound hA hb
      rw [hx] at rx
      rw [hi] at ri
      simp only [R] at rx ri
      obtain ⟨p, ad, cap', hp, hz, ex, _, _, _, hlc, had, _⟩ := rx
      simp only [sizeT, Option.map_eq_some_iff] at hn
      obtain ⟨ti, hti, hsz⟩ := hn
      have had : ad = p.base + i * z := by
        rcases had with h | h
        · exact h
        · omega
      refine Does.quiet hst (cv := .pointer (some ⟨p.blk, ad + q.toNat * z, none⟩)) ?_ ?_
      · simp [execOp, ho, Instr.indexAt, ri, asIntOf, run_underlying ht, ex, h0, h1, sizeOf, typeInfo, hti, hsz, addr_add]
      · simp only [R]
        refine ⟨p, hp, ?_⟩
        rw [had, hz, Nat.add_mul]
        simp [Nat.add_assoc]
    · cases hp
  · cases hp
theorem does_indexArr (hst : St φ m w) (hA : RF φ N fr A) {t e : TypeId} {len : Nat} {x ix : Operand} (ho : o.op = .indexAddr t x ix) (ht : P.underlying t = some (.array len e)) {n : Nat} (hn : sizeT P e = some n) {a b : Arg} (ha : argC N x = some a) (hb : argC N ix = some b)
    {tgt : Option Nat} (hp : prim (.indexArr len n a b) tgt fr m = some (v, m')) : Does0 P o A w φ m v m' := by
  simp only [prim] at hp
  split at hp
  · rename_i b i j k q hx hi
    split at hp
    · rename_i hc
      obtain ⟨h0, h1⟩ := hc
      cases hp
      have rx := argC_sound hA ha
      have ri := argC_sound hA hb
      rw [hx] at rx
      rw [hi] at ri
      simp only [R] at rx ri
      obtain ⟨p, hp, ex⟩ := rx
      simp only [sizeT, Option.map_eq_some_iff] at hn
      obtain ⟨ti, hti, hsz⟩ := hn
      refine Does.quiet hst (cv := .pointer (some ⟨p.blk, p.base + i * p.esz + j + q.toNat * n, none⟩)) ?_ ?_
      · simp [execOp, ho, Instr.indexAt, ri, asIntOf, run_underlying ht, ex, Instr.sureAddr, h0, h1, sizeOf, typeInfo, hti, hsz, addr_add]
      · simp only [R]
        exact ⟨p, hp, by simp [Nat.add_assoc]⟩
    · cases hp
  · cases hp
theorem does_extract (hst : St φ m w) (hA : RF φ N fr A) {x : Operand} {i : Nat} (ho : o.op = .extract x i) {a : Arg} (ha : argC N x = some a) {tgt : Option Nat} (hp : prim (.extract i a) tgt fr m = some (v, m')) : Does0 P o A w φ m v m' := by
  simp only [prim] at hp
  split at hp
  · rename_i vs hx
    rw [Option.map_eq_some_iff] at hp
    obtain ⟨q, hq, e⟩ := hp
    cases e
    have rx := argC_sound hA ha
    rw [hx] at rx
    simp only [R] at rx
    obtain ⟨l, e, hl⟩ := rx
    obtain ⟨c, h1, h2⟩ := hl.get hq
    refine Does.quiet hst (cv := c) ?_ h2
    simp [execOp, ho, Instr.extract, e, h1]
  · cases hp
theorem does_len (hst : St φ m w) (hA : RF φ N fr A) {x : Operand} {t e : TypeId} {c : Call} (ho : o.op = .call c) (hcc : c.callee = .builtin .len) (hca : c.args.toList = [x]) {ts : List TypeId} (hct : c.argTypes.toList = t :: ts) (ht : P.underlying t = some (.slice e)) {a : Arg} (ha : argC N x = some a) {tgt : Option Nat} (hp : prim (.len a) tgt fr m = some (v, m')) : Does0 P o A w φ m v m' := by
  obtain ⟨callee, args, argTypes⟩ := c
  simp only at hcc hca hct
  subst hcc
  obtain ⟨args⟩ := args
  obtain ⟨argTypes⟩ := argTypes
  simp only at hca hct
  subst hca; subst hct
  have rx := argC_sound hA ha
  simp only [prim] at hp
  split at hp
  · rename_i hx
    cases hp
    rw [hx] at rx
    simp only [R] at rx
    exact Does.quiet hst (cv := .int .i64 0) (by simp [execOp, ho, resolve, invoke, builtin, Builtin.len_, run_underlying ht, rx, goInt]) (by simp [R])
  · rename_i b i len cap ex z hx
    cases hp
    rw [hx] at rx
    simp only [R] at rx
    obtain ⟨p, ad, cap', _, _, e, _⟩ := rx
    exact Does.quiet hst (cv := .int .i64 len) (by simp [execOp, ho, resolve, invoke, builtin, Builtin.len_, run_underlying ht, e, goInt]) (by simp [R])
  · cases hp
theorem does_min (hst : St φ m w) (hA : RF φ N fr A) {x y : Operand} {c : Call} (ho : o.op = .call c) (hcc : c.callee = .builtin .min) (hca : c.args.toList = [x, y]) {a b : Arg} (ha : argC N x = some a) (hb : argC N y = some b) {tgt : Option Nat} (hp : prim (.min a b) tgt fr m = some (v, m')) : Does0 P o A w φ m v m' := by
  obtain ⟨callee, args, argTypes⟩ := c
  simp only at hcc hca
  subst hcc
  obtain ⟨args⟩ := args
  simp only at hca
  subst hca
  have rx := argC_sound hA ha
  have ry := argC_sound hA hb
  simp only [prim] at hp
  split at hp
  · rename_i k p k' q hx hy
    cases hp
    rw [hx] at rx
    rw [hy] at ry
    simp only [R] at rx ry
    exact Does.quiet hst (cv := .int k (if q < p then q else p)) (by simp [execOp, ho, resolve, invoke, builtin, Builtin.min_, Builtin.min2, rx, ry]) (by simp [R])
  · cases hp
theorem does_max (hst : St φ m w) (hA : RF φ N fr A) {x y : Operand} {c : Call} (ho : o.op = .call c) (hcc : c.callee = .builtin .max) (hca : c.args.toList = [x, y]) {a b : Arg} (ha : argC N x = some a) (hb : argC N y = some b) {tgt : Option Nat} (hp : prim (.max a b) tgt fr m = some (v, m')) : Does0 P o A w φ m v m' := by
  obtain ⟨callee, args, argTypes⟩ := c
  simp only at hcc hca
  subst hcc
  obtain ⟨args⟩ := args
  simp only at hca
  subst hca
  have rx := argC_sound hA ha
  have ry := argC_sound hA hb
  simp only [prim] at hp
  split at hp
  · rename_i k p k' q hx hy
    cases hp
    rw [hx] at rx
    rw [hy] at ry
    simp only [R] at rx ry
    exact Does.quiet hst (cv := .int k (if q > p then q else p)) (by simp [execOp, ho, resolve, invoke, builtin, Builtin.max_, Builtin.max2, rx, ry]) (by simp [R])
  · cases hp
end
end Go.AM
