import Derived.Test.YtcdibfkebojefaaAm1
set_option linter.unusedVariables false
set_option linter.unusedSimpArgs false
namespace Go.Proofs.Hx

/-! ### The compiler -/
def places (P : Program) (t : TypeId) : Option (Nat → Option (Nat × Nat)) :=
  match P.underlying t with
  | some (.struct fields) => (fields.toList.mapM (fun f => (P.info? f.type).map fun i => (f.offset, i.size))).map fun l => fun i => l.toArray[i]?
  | some (.array _ e) => (P.info? e).map fun ie => fun i => some (i * ie.size, ie.size)
  | _ => none
def cParts (pl : Nat → Option (Nat × Nat)) : List (Nat × Operand) → Option (List (Nat × Nat × AOpd))
  | [] => some []
  | (i, x) :: ps => (pl i).bind fun q => (cOpd x).bind fun y => (cParts pl ps).map fun qs => (q.1, q.2, y) :: qs
def cOpds : List Operand → Option (List AOpd)
  | [] => some []
  | x :: xs => (cOpd x).bind fun y => (cOpds xs).map fun ys => y :: ys
def cOpt : Option Operand → Option (Option AOpd)
  | none => some none
  | some x => (cOpd x).map some
def zeroOf (P : Program) (t : TypeId) : Option (List AV) := (P.info? t).bind fun i => i.zero.bind fun z => toAVs z.cells.toList
def isAggT (P : Program) (t : TypeId) : Option Bool := (P.underlying t).map fun d => match d with | .struct _ | .array _ _ => true | _ => false
def cBuiltin (P : Program) (b : Builtin) (args : List Operand) (tys : Array TypeId) : Option AOp :=
  match b, args with
  | .len, [x] => (tys[0]?).bind fun t => (cOpd x).bind fun y =>
    match P.underlying t with
    | some (.array n _) => some (.len (some n) y)
    | some (.slice _) => some (.len none y)
    | some .string => some (.lenStr y)
    | _ => none
  | .append, [s, x] => (tys[0]?).bind fun t => (tys[1]?).bind fun u => (cOpd s).bind fun s => (cOpd x).bind fun x =>
    match P.underlying t, P.underlying u with
    | some (.slice e), some (.slice _) => (P.info? e).bind fun i => i.zero.bind fun z => if z.cells.size = i.size ∧ i.bytes ≠ 0 then some (.append i.size i.bytes s x) else none
    | _, _ => none
  | .max, xs => (cOpds xs).map .maxs
  | .min, xs => (cOpds xs).map .mins
  | _, _ => none
def cOp (P : Program) (q : Bool) : Op → Option AOp
  | .move x | .assign x => (cOpd x).map .mv
  | .pick c a b => (cOpd c).bind fun c => (cOpd a).bind fun a => (cOpd b).map fun b => .pick c a b
  | .alloc e => (zeroOf P e).map .alloc
  | .box _ x => (cOpd x).map .box
  | .build t ps => (zeroOf P t).bind fun z => (places P t).bind fun pl => (cParts pl ps.toList).map fun ps => .build z ps
  | .buildSlice t len ps =>
    match P.underlying t with
    | some (.slice e) => (P.info? e).bind fun i => (zeroOf P e).bind fun z => if len * i.size ≤ 2 ^ 24 then
        (cParts (fun k => some (k * i.size, i.size)) ps.toList).map fun ps => .buildSl i.size len ((List.range (len * i.size)).map fun k => z.getD (k % z.length) .undef) ps
      else none
    | _ => none
  | .load t a => (isAggT P t).bind fun g => (P.info? t).bind fun i => (cOpd a).map fun a => .load g i.size a
  | .store t a x => (P.info? t).bind fun i => (cOpd a).bind fun a => (cOpd x).map fun x => .store i.size a x
  | .nilCheck x => (cOpd x).map .nilchk
  | .binOp op t x y _ => (cOpd x).bind fun x => (cOpd y).bind fun y =>
    match P.underlying t with
    | some .bool => match op with | .eql => some (.beq false x y) | .neq => some (.beq true x y) | _ => none
    | _ => some (.bin op x y)
  | .unOp op _ x => (cOpd x).map (.un op)
  | .convert src dst x =>
    match P.underlying src, P.underlying dst with
    | some _, some (.int k) => (cOpd x).map (.conv k)
    | _, _ => none
  | .makeFunc (.func f) first caps => if first.isEmpty then (cOpds caps.toList).map (.mkfn f) else none
  | .makeSlice t l c =>
    match P.underlying t with
    | some (.slice e) => (P.info? e).bind fun i => (zeroOf P e).bind fun z => (cOpd l).bind fun l => (cOpd c).bind fun c => if z.length = i.size ∧ i.size ≠ 0 then some (.mksl i.size i.bytes z l c) else none
    | _ => none
  | .slice t x lo hi mx => (cOpd x).bind fun x => (cOpt lo).bind fun lo => (cOpt hi).bind fun hi => (cOpt mx).bind fun mx =>
    match P.underlying t with
    | some (.array n e) => (P.info? e).map fun i => .slice (some n) i.size x lo hi mx
    | some (.slice e) => (P.info? e).map fun i => .slice none i.size x lo hi mx
    | _ => none
  | .fieldAddr t x f =>
    match P.underlying t with
    | some (.struct fs) => (fs[f]?).bind fun fd => (P.info? fd.type).bind fun i => if i.size = 0 then none else (cOpd x).map (.fieldAddr fd.offset)
    | _ => none
  | .field t x f =>
    match P.underlying t with
    | some (.struct fs) => (fs[f]?).bind fun fd => (P.info? fd.type).bind fun i => (isAggT P fd.type).bind fun g => (cOpd x).map (.field g fd.offset i.size)
    | _ => none
  | .indexAddr t x i => (cOpd x).bind fun x => (cOpd i).bind fun i =>
    match P.underlying t with
    | some (.array n e) => (P.info? e).map fun ie => .idxAddr (some n) ie.size x i
    | some (.slice e) => (P.info? e).map fun ie => .idxAddr none ie.size x i
    | _ => none
  | .index t x i => (cOpd x).bind fun x => (cOpd i).bind fun i =>
    match P.underlying t with
    | some (.array n e) => (P.info? e).bind fun ie => (isAggT P e).map fun g => .idx g n ie.size x i
    | _ => none
  | .extract x i => (cOpd x).map fun x => .ext x i
  | .call c =>
    match c.callee with
    | .value f => (cOpd f).bind fun f => (cOpds c.args.toList).map fun as => .call q f as
    | .builtin b => cBuiltin P b c.args.toList c.argTypes
    | _ => none
  | _ => none

/-! ### Operations that look at their operands alone -/
def bits2 (op : BinOp) (k : IntKind) (x y : Int) : Option Value :=
  let a := BitVec.ofInt k.bits x
  let b := BitVec.ofInt k.bits y
  match op with
  | .and => some (.int k (k.wrap (a &&& b).toNat))
  | .or => some (.int k (k.wrap (a ||| b).toNat))
  | .xor => some (.int k (k.wrap (a ^^^ b).toNat))
  | .andNot => some (.int k (k.wrap (a &&& ~~~b).toNat))
  | _ => none
def binI (op : BinOp) (k : IntKind) (a b : Int) : Option Value :=
  match op with
  | .add => some (.int k (k.wrap (a + b)))
  | .sub => some (.int k (k.wrap (a - b)))
  | .mul => some (.int k (k.wrap (a * b)))
  | .quo => if b = 0 then none else some (.int k (k.wrap (a.tdiv b)))
  | .rem => if b = 0 then none else some (.int k (a.tmod b))
  | .eql => some (.bool (a == b))
  | .neq => some (.bool (a != b))
  | .lss => some (.bool (decide (a < b)))
  | .leq => some (.bool (decide (a ≤ b)))
  | .gtr => some (.bool (decide (b < a)))
  | .geq => some (.bool (decide (b ≤ a)))
  | op => bits2 op k a b
def binS (op : BinOp) (a b : ByteArray) : Option Value :=
  match op with
  | .eql => some (.bool (a.toList == b.toList))
  | .neq => some (.bool !(a.toList == b.toList))
  | _ => none
def binV (op : BinOp) : AV → AV → Option AV
  | .lit (.int k a), .lit (.int k' b) =>
    match op with
    | .shl => if 0 ≤ b then some (.lit (.int k (k.wrap (a * 2 ^ (min b.toNat k.bits))))) else none
    | .shr => if 0 ≤ b then some (.lit (.int k (a.fdiv (2 ^ (min b.toNat k.bits))))) else none
    | op => if k = k' then (binI op k a b).map .lit else none
  | .lit (.string a), .lit (.string b) => (binS op a b).map .lit
  | _, _ => none
def unV (op : UnOp) : AV → Option AV
  | .lit (.bool b) => match op with | .not => some (.lit (.bool (!b))) | _ => none
  | .lit (.int k n) => match op with | .neg => some (.lit (.int k (k.wrap (0 - n)))) | .xor => (bits2 .xor k (if k.signed then -1 else k.max) n).map .lit | _ => none
  | _ => none
def foldI (f : Int → Int → Int) (k : IntKind) : Int → List AV → Option AV
  | a, [] => some (.lit (.int k a))
  | a, .lit (.int _ b) :: r => foldI f k (f a b) r
  | _, _ => none
def maxV : List AV → Option AV
  | .lit (.int k a) :: r => foldI (fun x y => if y > x then y else x) k a r
  | _ => none
def minV : List AV → Option AV
  | .lit (.int k a) :: r => foldI (fun x y => if y < x then y else x) k a r
  | _ => none
def lenV : AV → Option AV
  | .sl _ _ n _ => some (.lit (.int .i64 n))
  | .row xs => some (.lit (.int .i64 xs.length))
  | .nil => some (.lit (.int .i64 0))
  | _ => none
def idxAddrV (arr : Option Nat) (sz : Nat) : AV → AV → Option AV
  | .sl id off len sz', .lit (.int _ i) => if arr = none ∧ sz' = sz ∧ 0 ≤ i ∧ i < len then some (.ptr id (off + i.toNat * sz)) else none
  | .row xs, .lit (.int _ i) => if arr = none ∧ 0 ≤ i then (match xs[i.toNat]? with | some x => if x.length = sz then some (.ip x) else none | none => none) else none
  | .ptr id off, .lit (.int _ i) => match arr with | some n => if 0 ≤ i ∧ i < n then some (.ptr id (off + i.toNat * sz)) else none | none => none
  | .ip cs, .lit (.int _ i) => match arr with | some n => if 0 ≤ i ∧ i < n then some (.ip (cs.drop (i.toNat * sz))) else none | none => none
  | _, _ => none
def partV (agg : Bool) (off n : Nat) (cs : List AV) : Option AV :=
  if agg then (if off + n ≤ cs.length then some (.agg ((cs.drop off).take n)) else none) else cs[off]?
def idxV (agg : Bool) (len sz : Nat) : AV → AV → Option AV
  | .agg cs, .lit (.int _ i) => if 0 ≤ i ∧ i < len then partV agg (i.toNat * sz) sz cs else none
  | _, _ => none
def bound (d : Nat) : Option AV → Option Nat
  | none => some d
  | some (.lit (.int _ i)) => if 0 ≤ i then some i.toNat else none
  | _ => none
def sliceV (arr : Option Nat) (sz : Nat) (x : AV) (lo hi mx : Option AV) : Option AV :=
  if mx.isSome && hi.isNone then none else
  match arr, x with
  | some n, .ptr id off =>
    match bound 0 lo, bound n hi, bound n mx with
    | some l, some h, some m => if l ≤ h ∧ h ≤ m ∧ m ≤ n then some (.sl id (off + l * sz) (h - l) sz) else none
    | _, _, _ => none
  | none, .sl id off n sz' =>
    match bound 0 lo, bound n hi, bound n mx with
    | some l, some h, some m => if l ≤ h ∧ h ≤ m ∧ m ≤ n ∧ sz' = sz then some (.sl id (off + l * sz) (h - l) sz) else none
    | _, _, _ => none
  | none, .row xs =>
    match bound 0 lo, bound xs.length hi, bound xs.length mx with
    | some l, some h, some m => if l ≤ h ∧ h ≤ m ∧ m ≤ xs.length ∧ (xs.all fun x => x.length = sz) then some (.row ((xs.drop l).take (h - l))) else none
    | _, _, _ => none
  | none, .nil =>
    match bound 0 lo, bound 0 hi, bound 0 mx with
    | some 0, some 0, some 0 => some .nil
    | _, _, _ => none
  | _, _ => none
def pureV (o : AOp) (ρ : AOpd → AV) : Option AV :=
  match o with
  | .mv x => some (ρ x)
  | .pick c a b => match ρ c with | .lit (.bool t) => some (if t then ρ a else ρ b) | _ => none
  | .build z ps => (fillA z (ps.map fun p => (p.1, p.2.1, ρ p.2.2))).map .agg
  | .nilchk x => match ρ x with | .ptr id off => some (.ptr id off) | .ip cs => some (.ip cs) | .fn f cs => some (.fn f cs) | .map id => some (.map id) | _ => none
  | .bin op x y => binV op (ρ x) (ρ y)
  | .beq neg x y => match ρ x, ρ y with | .lit (.bool a), .lit (.bool b) => some (.lit (.bool (if neg then !(a == b) else a == b))) | _, _ => none
  | .un op x => unV op (ρ x)
  | .conv k x => match ρ x with | .lit (.int _ n) => some (.lit (.int k (k.wrap n))) | _ => none
  | .mkfn f caps => some (.fn f (caps.map ρ))
  | .slice none sz x lo hi mx => sliceV none sz (ρ x) (lo.map ρ) (hi.map ρ) (mx.map ρ)
  | .fieldAddr off x => match ρ x with | .ptr id o => some (.ptr id (o + off)) | .ip cs => some (.ip (cs.drop off)) | _ => none
  | .field agg off n x => match ρ x with | .agg cs => partV agg off n cs | _ => none
  | .idxAddr arr sz x i => idxAddrV arr sz (ρ x) (ρ i)
  | .idx agg len sz x i => idxV agg len sz (ρ x) (ρ i)
  | .ext x i => match ρ x with | .tup vs => vs[i]? | _ => none
  | .len arr x => match arr with | some n => some (.lit (.int .i64 n)) | none => lenV (ρ x)
  | .lenStr x => match ρ x with | .lit (.string s) => some (.lit (.int .i64 s.size)) | _ => none
  | .maxs xs => maxV (xs.map ρ)
  | .mins xs => minV (xs.map ρ)
  | _ => none

/-! ### Soundness of these -/
theorem VRep.lit {c : Cx} {v u : Value} (h : VRep c v (.lit u)) : v = u := by simpa [VRep] using h
theorem VRep.lit_mk {c : Cx} (u : Value) : VRep c u (.lit u) := by simp [VRep]
theorem add_addr (b off n : Nat) : (⟨b, off, none⟩ : Addr).add n = ⟨b, off + n, none⟩ := by unfold Addr.add; split <;> simp_all

section
variable {P : Program} {c : Cx}

/-- 'x' runs to something that 'r' stands for, in the same world. -/
def Gives (P : Program) (c : Cx) (x : Sem Value) (r : AV) : Prop := ∃ v, x.run P c.w = .ok v c.w ∧ VRep c v r

theorem bin_int (op : BinOp) (k k' : IntKind) (t : TypeId) (a b : Int) {r : AV} (h : binV op (.lit (.int k a)) (.lit (.int k' b)) = some r) :
    Gives P c (binOp op t (.int k a) (.int k' b)) r := by
  unfold binV at h
  cases op <;> simp only [] at h <;> simp only [Go.binOp] <;>
    first
    | (split at h
       · rename_i hk; subst hk
         simp only [binI, bits2] at h
         first
         | (simp only [Option.map_some, Option.some.injEq] at h
            subst h
            refine ⟨_, ?_, VRep.lit_mk _⟩
            simp [Op.intArith, Op.intBits, Op.intCmp]; done)
         | (split at h
            · simp at h
            · rename_i hb
              simp only [Option.map_some, Option.some.injEq] at h
              subst h
              refine ⟨_, ?_, VRep.lit_mk _⟩
              simp [Op.intDiv, hb]; done)
       · cases h)
    | (split at h
       · rename_i hb
         simp only [Option.some.injEq] at h
         subst h
         refine ⟨_, ?_, VRep.lit_mk _⟩
         have : ¬ b < 0 := by omega
         simp [Op.shift, this]
       · cases h)

theorem bin_str (op : BinOp) (t : TypeId) (a b : ByteArray) {r : AV} (h : binV op (.lit (.string a)) (.lit (.string b)) = some r) :
    Gives P c (binOp op t (.string a) (.string b)) r := by
  simp only [binV] at h
  cases op <;> simp only [binS, Option.map_none, Option.map_some, Option.some.injEq, reduceCtorEq] at h <;> subst h <;> exact ⟨_, by simp [Go.binOp, Op.stringOp], VRep.lit_mk _⟩

theorem eqGuard_lit (op : BinOp) (t : TypeId) (x y : Operand) (a b : Value) (ha : (match a with | .nilIface | .agg _ => false | _ => true) = true) (w : World) :
    (eqGuard op t x y a b).run P w = .ok () w := by
  unfold eqGuard
  cases a <;> first | (simp at ha; done) | (clear ha; split <;> first | rfl | simp)

theorem VRep.int_inv {k : IntKind} {n : Int} {v : Value} (h : VRep c v (.lit (.int k n))) : v = .int k n := h.lit

theorem cOpds_rep {ρ : Operand → Value} {ρA : AOpd → AV} (hρ : ∀ x y, cOpd x = some y → VRep c (ρ x) (ρA y)) : ∀ {xs : List Operand} {ys : List AOpd}, cOpds xs = some ys → Reps c (xs.map ρ) (ys.map ρA)
  | [], ys, h => by simp [cOpds] at h; subst h; simp [Reps]
  | x :: xs, ys, h => by
    simp only [cOpds, Option.bind_eq_some_iff, Option.map_eq_some_iff] at h
    obtain ⟨y, h1, zs, h2, rfl⟩ := h
    simp only [List.map_cons, Reps]
    exact ⟨hρ x y h1, cOpds_rep hρ h2⟩
theorem cParts_rep {ρ : Operand → Value} {ρA : AOpd → AV} (hρ : ∀ x y, cOpd x = some y → VRep c (ρ x) (ρA y)) {pl : Nat → Option (Nat × Nat)} : ∀ {xs : List (Nat × Operand)} {ys : List (Nat × Nat × AOpd)}, cParts pl xs = some ys →
    PRep c pl (xs.map fun p => (p.1, ρ p.2)) (ys.map fun p => (p.1, p.2.1, ρA p.2.2))
  | [], ys, h => by simp [cParts] at h; subst h; simp [PRep]
  | (i, x) :: xs, ys, h => by
    simp only [cParts, Option.bind_eq_some_iff, Option.map_eq_some_iff] at h
    obtain ⟨q, h0, y, h1, zs, h2, rfl⟩ := h
    simp only [List.map_cons, PRep]
    exact ⟨⟨by simpa using h0, hρ x y h1⟩, cParts_rep hρ h2⟩

theorem zeroOf_inv {t : TypeId} {z : List AV} (h : zeroOf P t = some z) : ∃ i v, P.info? t = some i ∧ i.zero = some v ∧ toAVs v.cells.toList = some z := by
  simp only [zeroOf, Option.bind_eq_some_iff] at h
  obtain ⟨i, h1, v, h2, h3⟩ := h
  exact ⟨i, v, h1, h2, h3⟩

theorem build_sound {t : TypeId} {z : List AV} {pl : Nat → Option (Nat × Nat)} {ps : Array (Nat × Value)} {qs : List (Nat × Nat × AV)} {out : List AV}
    (hz : zeroOf P t = some z) (hpl : places P t = some pl) (hp : PRep c pl ps.toList qs) (h : fillA z qs = some out) : Gives P c (Instr.build t ps) (.agg out) := by
  obtain ⟨i, v, h1, h2, h3⟩ := zeroOf_inv hz
  have hr := toAVs_sound (c := c) h3
  unfold places at hpl
  split at hpl
  · rename_i fields hu
    simp only [Option.map_eq_some_iff] at hpl
    obtain ⟨l, hl, rfl⟩ := hpl
    obtain ⟨cells, e, hR, _⟩ := fillA_sound hp hr h
    refine ⟨.agg cells, run_build c.w t ps cells ?_, by simp only [VRep]; exact ⟨cells, rfl, hR⟩⟩
    simp only [Program.built, h1, hu, h2, hl]
    simpa using e
  · rename_i n e hu
    simp only [Option.map_eq_some_iff] at hpl
    obtain ⟨ie, hl, rfl⟩ := hpl
    obtain ⟨cells, e', hR, _⟩ := fillA_sound hp hr h
    refine ⟨.agg cells, run_build c.w t ps cells ?_, by simp only [VRep]; exact ⟨cells, rfl, hR⟩⟩
    simp only [Program.built, h1, hu, h2, hl]
    simpa using e'
  · cases hpl

theorem part_sound {t : TypeId} {g : Bool} {i : TypeInfo} {arr : Array Value} {cs : List AV} {off : Nat} {r : AV} (hg : isAggT P t = some g) (hi : P.info? t = some i)
    (hr : Reps c arr.toList cs) (h : partV g off i.size cs = some r) : Gives P c (part t arr off) r := by
  simp only [isAggT, Option.map_eq_some_iff] at hg
  obtain ⟨d, hu, hd⟩ := hg
  have hag : (isAgg t).run P c.w = .ok g c.w := by
    simp only [isAgg, Sem.run_bind, run_underlying hu, Result.andThen_ok]
    subst hd
    cases d <;> rfl
  have hsz : (sizeOf t).run P c.w = .ok i.size c.w := by simp [sizeOf, typeInfo, hi]
  unfold partV at h
  cases g with
  | true =>
    simp only [if_true] at h
    split at h
    · rename_i hl
      cases h
      refine ⟨.agg (arr.extract off (off + i.size)), ?_, ?_⟩
      · simp only [part, Sem.run_bind, hag, Result.andThen_ok, if_true, hsz, Sem.run_pure]
      · simp only [VRep]
        refine ⟨_, rfl, ?_⟩
        have := (hr.drop off).take i.size
        simpa [Array.toList_extract, List.extract_eq_take_drop] using this
    · cases h
  | false =>
    simp only [Bool.false_eq_true, if_false] at h
    obtain ⟨v, h1, h2⟩ := hr.get h
    refine ⟨v, ?_, h2⟩
    have h1' : arr[off]? = some v := by simpa using h1
    simp [part, hag, h1']
end
end Go.Proofs.Hx
