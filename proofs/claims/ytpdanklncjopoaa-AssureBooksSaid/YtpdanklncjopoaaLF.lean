import Derived.Test.YtpdanklncjopoaaG9
set_option linter.unusedSimpArgs false
set_option linter.unusedVariables false
namespace Go.Proofs.Ytpdanklncjopoaa
open Go.RowKit Go.Abs
structure Usage where
  id : Int
  kind : Int
  account : Int
  sub : Int
  a : (List UInt8)
  b : (List UInt8)
  start : Int
  units : Int
  trunk : Int
  inbound : Bool
  source : Int
  serial : Int
instance : Inhabited Usage := ⟨⟨default, default, default, default, default, default, default, default, default, default, default, default⟩⟩
def Usage.row (x : Usage) : List D := [cI x.id, cI x.kind, cI x.account, cI x.sub, cS x.a, cS x.b, cI x.start, cI x.units, cI x.trunk, cB x.inbound, cI x.source, cI x.serial]
def Usage.vals (x : Usage) : List Value := [.int .i64 x.id, .int .i64 x.kind, .int .i64 x.account, .int .i64 x.sub, .string ⟨x.a.toArray⟩, .string ⟨x.b.toArray⟩, .int .i64 x.start, .int .i64 x.units, .int .i64 x.trunk, .bool x.inbound, .int .i64 x.source, .int .i64 x.serial]
structure Leak where
  ctl : Int
  key : Int
  left : Int
  right : Int
instance : Inhabited Leak := ⟨⟨default, default, default, default⟩⟩
def Leak.row (x : Leak) : List D := [cI x.ctl, cI x.key, cI x.left, cI x.right]
def Leak.vals (x : Leak) : List Value := [.int .i64 x.ctl, .int .i64 x.key, .int .i64 x.left, .int .i64 x.right]
structure Take where
  sub : Int
  product : (List UInt8)
  index : Int
  from_ : Int
  units : Int
instance : Inhabited Take := ⟨⟨default, default, default, default, default⟩⟩
def Take.row (x : Take) : List D := [cI x.sub, cS x.product, cI x.index, cI x.from_, cI x.units]
def Take.vals (x : Take) : List Value := [.int .i64 x.sub, .string ⟨x.product.toArray⟩, .int .i64 x.index, .int .i64 x.from_, .int .i64 x.units]
structure Segment where
  band : (List UInt8)
  start : Int
  units : Int
  amount : Int
instance : Inhabited Segment := ⟨⟨default, default, default, default⟩⟩
def Segment.row (x : Segment) : List D := [cS x.band, cI x.start, cI x.units, cI x.amount]
def Segment.vals (x : Segment) : List Value := [.string ⟨x.band.toArray⟩, .int .i64 x.start, .int .i64 x.units, .int .i64 x.amount]
structure Given where
  name : (List UInt8)
  amount : Int
instance : Inhabited Given := ⟨⟨default, default⟩⟩
def Given.row (x : Given) : List D := [cS x.name, cI x.amount]
def Given.vals (x : Given) : List Value := [.string ⟨x.name.toArray⟩, .int .i64 x.amount]
structure Rated where
  usage : Usage
  err : Int
  plan : (List UInt8)
  version : Int
  zone : (List UInt8)
  takes : (List Take)
  segments : (List Segment)
  setup : Int
  gross : Int
  net : Int
  given : (List Given)
  paid : Int
  owed : Int
instance : Inhabited Rated := ⟨⟨default, default, default, default, default, default, default, default, default, default, default, default, default⟩⟩
def Rated.row (x : Rated) : List D := [cI x.usage.id, cI x.usage.kind, cI x.usage.account, cI x.usage.sub, cS x.usage.a, cS x.usage.b, cI x.usage.start, cI x.usage.units, cI x.usage.trunk, cB x.usage.inbound, cI x.usage.source, cI x.usage.serial, cI x.err, cS x.plan, cI x.version, cS x.zone, slOf 5 Take.row x.takes, slOf 4 Segment.row x.segments, cI x.setup, cI x.gross, cI x.net, slOf 2 Given.row x.given, cI x.paid, cI x.owed]
structure Line where
  kind : Int
  sub : Int
  name : (List UInt8)
  category : (List UInt8)
  count : Int
  units : Int
  amount : Int
  rounded : Int
instance : Inhabited Line := ⟨⟨default, default, default, default, default, default, default, default⟩⟩
def Line.row (x : Line) : List D := [cI x.kind, cI x.sub, cS x.name, cS x.category, cI x.count, cI x.units, cI x.amount, cI x.rounded]
def Line.vals (x : Line) : List Value := [.int .i64 x.kind, .int .i64 x.sub, .string ⟨x.name.toArray⟩, .string ⟨x.category.toArray⟩, .int .i64 x.count, .int .i64 x.units, .int .i64 x.amount, .int .i64 x.rounded]
structure Range where
  source : Int
  from_ : Int
  to_ : Int
instance : Inhabited Range := ⟨⟨default, default, default⟩⟩
def Range.row (x : Range) : List D := [cI x.source, cI x.from_, cI x.to_]
def Range.vals (x : Range) : List Value := [.int .i64 x.source, .int .i64 x.from_, .int .i64 x.to_]
structure Balance where
  read : Int
  accepted : Int
  merged : Int
  rejected : Int
  suspended : Int
  open_ : Int
instance : Inhabited Balance := ⟨⟨default, default, default, default, default, default⟩⟩
def Balance.row (x : Balance) : List D := [cI x.read, cI x.accepted, cI x.merged, cI x.rejected, cI x.suspended, cI x.open_]
def Balance.vals (x : Balance) : List Value := [.int .i64 x.read, .int .i64 x.accepted, .int .i64 x.merged, .int .i64 x.rejected, .int .i64 x.suspended, .int .i64 x.open_]
structure Record where
  source : Int
  serial : Int
  kind : Int
  a : (List UInt8)
  b : (List UInt8)
  start : Int
  units : Int
  call : Int
  part : Int
  last : Bool
  trunk : Int
  inbound : Bool
instance : Inhabited Record := ⟨⟨default, default, default, default, default, default, default, default, default, default, default, default⟩⟩
def Record.row (x : Record) : List D := [cI x.source, cI x.serial, cI x.kind, cS x.a, cS x.b, cI x.start, cI x.units, cI x.call, cI x.part, cB x.last, cI x.trunk, cB x.inbound]
def Record.vals (x : Record) : List Value := [.int .i64 x.source, .int .i64 x.serial, .int .i64 x.kind, .string ⟨x.a.toArray⟩, .string ⟨x.b.toArray⟩, .int .i64 x.start, .int .i64 x.units, .int .i64 x.call, .int .i64 x.part, .bool x.last, .int .i64 x.trunk, .bool x.inbound]
structure Head where
  source : Int
  number : Int
  format : Int
  count : Int
instance : Inhabited Head := ⟨⟨default, default, default, default⟩⟩
def Head.row (x : Head) : List D := [cI x.source, cI x.number, cI x.format, cI x.count]
def Head.vals (x : Head) : List Value := [.int .i64 x.source, .int .i64 x.number, .int .i64 x.format, .int .i64 x.count]
structure Intake where
  seen : (List Range)
  open_ : (List Record)
  heads : (List Head)
instance : Inhabited Intake := ⟨⟨default, default, default⟩⟩
def Intake.row (x : Intake) : List D := [slOf 3 Range.row x.seen, slOf 12 Record.row x.open_, slOf 4 Head.row x.heads]
structure Reject where
  source : Int
  serial : Int
  index : Int
  err : Int
instance : Inhabited Reject := ⟨⟨default, default, default, default⟩⟩
def Reject.row (x : Reject) : List D := [cI x.source, cI x.serial, cI x.index, cI x.err]
def Reject.vals (x : Reject) : List Value := [.int .i64 x.source, .int .i64 x.serial, .int .i64 x.index, .int .i64 x.err]
structure Mediation where
  intake : Intake
  usages : (List Usage)
  suspense : (List Record)
  rejects : (List Reject)
instance : Inhabited Mediation := ⟨⟨default, default, default, default⟩⟩
def Mediation.row (x : Mediation) : List D := [slOf 3 Range.row x.intake.seen, slOf 12 Record.row x.intake.open_, slOf 4 Head.row x.intake.heads, slOf 12 Usage.row x.usages, slOf 12 Record.row x.suspense, slOf 4 Reject.row x.rejects]
structure Post where
  account : (List UInt8)
  amount : Int
instance : Inhabited Post := ⟨⟨default, default⟩⟩
def Post.row (x : Post) : List D := [cS x.account, cI x.amount]
def Post.vals (x : Post) : List Value := [.string ⟨x.account.toArray⟩, .int .i64 x.amount]
structure Entry where
  at_ : Int
  text : (List UInt8)
  posts : (List Post)
instance : Inhabited Entry := ⟨⟨default, default, default⟩⟩
def Entry.row (x : Entry) : List D := [cI x.at_, cS x.text, slOf 2 Post.row x.posts]
structure Period where
  from_ : Int
  to_ : Int
instance : Inhabited Period := ⟨⟨default, default⟩⟩
def Period.row (x : Period) : List D := [cI x.from_, cI x.to_]
def Period.vals (x : Period) : List Value := [.int .i64 x.from_, .int .i64 x.to_]
structure TaxLine where
  category : (List UInt8)
  points : Int
  base : Int
  rounded : Int
instance : Inhabited TaxLine := ⟨⟨default, default, default, default⟩⟩
def TaxLine.row (x : TaxLine) : List D := [cS x.category, cI x.points, cI x.base, cI x.rounded]
def TaxLine.vals (x : TaxLine) : List Value := [.string ⟨x.category.toArray⟩, .int .i64 x.points, .int .i64 x.base, .int .i64 x.rounded]
structure Invoice where
  account : Int
  period : Period
  lines : (List Line)
  taxes : (List TaxLine)
  net : Int
  tax : Int
  total : Int
instance : Inhabited Invoice := ⟨⟨default, default, default, default, default, default, default⟩⟩
def Invoice.row (x : Invoice) : List D := [cI x.account, cI x.period.from_, cI x.period.to_, slOf 8 Line.row x.lines, slOf 4 TaxLine.row x.taxes, cI x.net, cI x.tax, cI x.total]
def f_billinglaw54_usages_j1 (v0list : List Usage) : Option Bool :=
  some (decide ((v0list.length : Int) ≤ 24))
def f_billinglaw54_usages_l1 (v0list : List Usage) (v3il1 : Int) : Option ((Int) ⊕ Bool) :=
  if ((decide (v3il1 < (v0list.length : Int))) && (decide (v3il1 ≤ 24))) = true then (ck ((0 : Int) ≤ v3il1 ∧ v3il1 < (v0list.length : Int)) (ck ((!(decide (((nth v0list (Int.toNat (v3il1))).units) < 0))) = true → ((0 : Int) ≤ v3il1 ∧ v3il1 < (v0list.length : Int))) (if ((decide (((nth v0list (Int.toNat (v3il1))).units) < 0)) || (decide (((nth v0list (Int.toNat (v3il1))).units) > 1099511627776))) = true then some (.inr false) else ck ((-9223372036854775808 : Int) ≤ v3il1 + 1 ∧ v3il1 + 1 ≤ (9223372036854775807 : Int)) (some (.inl (v3il1 + 1)))))) else (f_billinglaw54_usages_j1 v0list).map (fun z => .inr z)
def f_billinglaw54_usages (v0list : List Usage) : Option Bool :=
  loop (fun s => f_billinglaw54_usages_l1 v0list s) 0
def f_assure_keys_j1 (v0list : List Int) (v1n : Int) (v5atj1 : Int) : Option (List Int) :=
  ck ((decide (v5atj1 < (v0list.length : Int))) = true → ((0 : Int) ≤ v5atj1 ∧ v5atj1 < (v0list.length : Int))) (if ((decide (v5atj1 < (v0list.length : Int))) && ((nth v0list (Int.toNat (v5atj1))) == v1n)) = true then some v0list else ck ((0 : Int) ≤ v5atj1 ∧ v5atj1 ≤ (v0list.length : Int)) (ck ((v0list.take (Int.toNat (v5atj1))).length ≤ 1000000000) (ck ((v0list.take (Int.toNat (v5atj1))).length + ([v1n] : List Int).length ≤ 1000000000) (ck ((0 : Int) ≤ v5atj1 ∧ v5atj1 ≤ (v0list.length : Int)) (ck (((v0list.take (Int.toNat (v5atj1))) ++ ([v1n] : List Int)).length + (v0list.drop (Int.toNat (v5atj1))).length ≤ 1000000000) (some (((v0list.take (Int.toNat (v5atj1))) ++ ([v1n] : List Int)) ++ (v0list.drop (Int.toNat (v5atj1))))))))))
def f_assure_keys_l1 (v0list : List Int) (v1n : Int) (v5atl1 : Int) (v6endl1 : Int) : Option ((Int × Int) ⊕ (List Int)) :=
  if (decide (v5atl1 < v6endl1)) = true then (ck ((-9223372036854775808 : Int) ≤ v5atl1 + v6endl1 ∧ v5atl1 + v6endl1 ≤ (9223372036854775807 : Int)) (ck (2 ≠ (0 : Int) ∧ (-9223372036854775808 : Int) ≤ Int.tdiv (v5atl1 + v6endl1) 2 ∧ Int.tdiv (v5atl1 + v6endl1) 2 ≤ (9223372036854775807 : Int)) (ck ((0 : Int) ≤ (Int.tdiv (v5atl1 + v6endl1) 2) ∧ (Int.tdiv (v5atl1 + v6endl1) 2) < (v0list.length : Int)) (if (decide ((nth v0list (Int.toNat (Int.tdiv (v5atl1 + v6endl1) 2))) < v1n)) = true then (ck ((-9223372036854775808 : Int) ≤ (Int.tdiv (v5atl1 + v6endl1) 2) + 1 ∧ (Int.tdiv (v5atl1 + v6endl1) 2) + 1 ≤ (9223372036854775807 : Int)) (some (.inl ((Int.tdiv (v5atl1 + v6endl1) 2) + 1, v6endl1)))) else some (.inl (v5atl1, Int.tdiv (v5atl1 + v6endl1) 2)))))) else (f_assure_keys_j1 v0list v1n v5atl1).map (fun z => .inr z)
def f_assure_keys (v0list : List Int) (v1n : Int) : Option (List Int) :=
  loop (fun s => f_assure_keys_l1 v0list v1n s.1 s.2) (0, (v0list.length : Int))
def f_assure_Usages_l1 (o0c0j1 : List (Int × Int)) (o2c0j1 : List (Int × Usage)) (v5j2 : List Int) (o1c0j2 : List (Int × Int)) (o3c0j2 : List (Int × Usage)) (v15l1 : List Leak) (v76l1 : Int) : Option ((List Leak × Int) ⊕ (List Leak)) :=
  if (decide (v76l1 < (v5j2.length : Int))) = true then (ck ((0 : Int) ≤ v76l1 ∧ v76l1 < (v5j2.length : Int)) (if (((alook o0c0j1 (nth v5j2 (Int.toNat (v76l1)))).getD 0) != ((alook o1c0j2 (nth v5j2 (Int.toNat (v76l1)))).getD 0)) = true then (ck (v15l1.length + ([(⟨2, nth v5j2 (Int.toNat (v76l1)), (alook o0c0j1 (nth v5j2 (Int.toNat (v76l1)))).getD 0, (alook o1c0j2 (nth v5j2 (Int.toNat (v76l1)))).getD 0⟩ : Leak)] : List Leak).length ≤ 1000000000) (ck ((-9223372036854775808 : Int) ≤ v76l1 + 1 ∧ v76l1 + 1 ≤ (9223372036854775807 : Int)) (some (.inl (v15l1 ++ ([(⟨2, nth v5j2 (Int.toNat (v76l1)), (alook o0c0j1 (nth v5j2 (Int.toNat (v76l1)))).getD 0, (alook o1c0j2 (nth v5j2 (Int.toNat (v76l1)))).getD 0⟩ : Leak)] : List Leak), v76l1 + 1))))) else if (!(eqVs (Usage.vals ((alook o2c0j1 (nth v5j2 (Int.toNat (v76l1)))).getD (⟨0, 0, 0, 0, ([] : List UInt8), ([] : List UInt8), 0, 0, 0, false, 0, 0⟩ : Usage))) (Usage.vals ((alook o3c0j2 (nth v5j2 (Int.toNat (v76l1)))).getD (⟨0, 0, 0, 0, ([] : List UInt8), ([] : List UInt8), 0, 0, 0, false, 0, 0⟩ : Usage))))) = true then (ck (v15l1.length + ([(⟨3, nth v5j2 (Int.toNat (v76l1)), ((alook o2c0j1 (nth v5j2 (Int.toNat (v76l1)))).getD (⟨0, 0, 0, 0, ([] : List UInt8), ([] : List UInt8), 0, 0, 0, false, 0, 0⟩ : Usage)).units, ((alook o3c0j2 (nth v5j2 (Int.toNat (v76l1)))).getD (⟨0, 0, 0, 0, ([] : List UInt8), ([] : List UInt8), 0, 0, 0, false, 0, 0⟩ : Usage)).units⟩ : Leak)] : List Leak).length ≤ 1000000000) (ck ((-9223372036854775808 : Int) ≤ v76l1 + 1 ∧ v76l1 + 1 ≤ (9223372036854775807 : Int)) (some (.inl (v15l1 ++ ([(⟨3, nth v5j2 (Int.toNat (v76l1)), ((alook o2c0j1 (nth v5j2 (Int.toNat (v76l1)))).getD (⟨0, 0, 0, 0, ([] : List UInt8), ([] : List UInt8), 0, 0, 0, false, 0, 0⟩ : Usage)).units, ((alook o3c0j2 (nth v5j2 (Int.toNat (v76l1)))).getD (⟨0, 0, 0, 0, ([] : List UInt8), ([] : List UInt8), 0, 0, 0, false, 0, 0⟩ : Usage)).units⟩ : Leak)] : List Leak), v76l1 + 1))))) else ck ((-9223372036854775808 : Int) ≤ v76l1 + 1 ∧ v76l1 + 1 ≤ (9223372036854775807 : Int)) (some (.inl (v15l1, v76l1 + 1))))) else some (.inr v15l1)
def f_assure_Usages_j2 (o0c0j1 : List (Int × Int)) (o2c0j1 : List (Int × Usage)) (v5j2 : List Int) (o1c0j2 : List (Int × Int)) (o3c0j2 : List (Int × Usage)) : Option (List Leak) :=
  loop (fun s => f_assure_Usages_l1 o0c0j1 o2c0j1 v5j2 o1c0j2 o3c0j2 s.1 s.2) (([] : List Leak), 0)
def f_assure_Usages_j3 (v1 : List Rated) (v49l2 : Int) (o1c0l2 : List (Int × Int)) (y1 : (List Int)) (o3c0j3 : List (Int × Usage)) : Option ((List Int × Int × (List (Int × Int)) × (List (Int × Usage))) ⊕ (List Leak)) :=
  ck ((-9223372036854775808 : Int) ≤ ((alook o1c0l2 (((nth v1 (Int.toNat (v49l2))).usage).id)).getD 0) + 1 ∧ ((alook o1c0l2 (((nth v1 (Int.toNat (v49l2))).usage).id)).getD 0) + 1 ≤ (9223372036854775807 : Int)) (ck ((-9223372036854775808 : Int) ≤ v49l2 + 1 ∧ v49l2 + 1 ≤ (9223372036854775807 : Int)) (some (.inl (y1, v49l2 + 1, aset o1c0l2 (((nth v1 (Int.toNat (v49l2))).usage).id) (((alook o1c0l2 (((nth v1 (Int.toNat (v49l2))).usage).id)).getD 0) + 1), o3c0j3))))
def f_assure_Usages_l2 (v1 : List Rated) (o0c0j1 : List (Int × Int)) (o2c0j1 : List (Int × Usage)) (v5l2 : List Int) (v49l2 : Int) (o1c0l2 : List (Int × Int)) (o3c0l2 : List (Int × Usage)) : Option ((List Int × Int × (List (Int × Int)) × (List (Int × Usage))) ⊕ (List Leak)) :=
  if (decide (v49l2 < (v1.length : Int))) = true then (ck ((0 : Int) ≤ v49l2 ∧ v49l2 < (v1.length : Int)) ((f_assure_keys v5l2 (((nth v1 (Int.toNat (v49l2))).usage).id)).bind fun y1 => if (((alook o1c0l2 (((nth v1 (Int.toNat (v49l2))).usage).id)).getD 0) == 0) = true then (f_assure_Usages_j3 v1 v49l2 o1c0l2 y1 (aset o3c0l2 (((nth v1 (Int.toNat (v49l2))).usage).id) ((nth v1 (Int.toNat (v49l2))).usage))) else f_assure_Usages_j3 v1 v49l2 o1c0l2 y1 o3c0l2)) else (f_assure_Usages_j2 o0c0j1 o2c0j1 v5l2 o1c0l2 o3c0l2).map (fun z => .inr z)
def f_assure_Usages_j1 (v1 : List Rated) (v5j1 : List Int) (o0c0j1 : List (Int × Int)) (o2c0j1 : List (Int × Usage)) : Option (List Leak) :=
  loop (fun s => f_assure_Usages_l2 v1 o0c0j1 o2c0j1 s.1 s.2.1 s.2.2.1 s.2.2.2) (v5j1, 0, ([] : List (Int × Int)), ([] : List (Int × Usage)))
def f_assure_Usages_j4 (v0 : List Usage) (v24l3 : Int) (o0c0l3 : List (Int × Int)) (y2 : (List Int)) (o2c0j4 : List (Int × Usage)) : Option ((List Int × Int × (List (Int × Int)) × (List (Int × Usage))) ⊕ (List Leak)) :=
  ck ((-9223372036854775808 : Int) ≤ ((alook o0c0l3 ((nth v0 (Int.toNat (v24l3))).id)).getD 0) + 1 ∧ ((alook o0c0l3 ((nth v0 (Int.toNat (v24l3))).id)).getD 0) + 1 ≤ (9223372036854775807 : Int)) (ck ((-9223372036854775808 : Int) ≤ v24l3 + 1 ∧ v24l3 + 1 ≤ (9223372036854775807 : Int)) (some (.inl (y2, v24l3 + 1, aset o0c0l3 ((nth v0 (Int.toNat (v24l3))).id) (((alook o0c0l3 ((nth v0 (Int.toNat (v24l3))).id)).getD 0) + 1), o2c0j4))))
def f_assure_Usages_l3 (v0 : List Usage) (v1 : List Rated) (v5l3 : List Int) (v24l3 : Int) (o0c0l3 : List (Int × Int)) (o2c0l3 : List (Int × Usage)) : Option ((List Int × Int × (List (Int × Int)) × (List (Int × Usage))) ⊕ (List Leak)) :=
  if (decide (v24l3 < (v0.length : Int))) = true then (ck ((0 : Int) ≤ v24l3 ∧ v24l3 < (v0.length : Int)) ((f_assure_keys v5l3 ((nth v0 (Int.toNat (v24l3))).id)).bind fun y2 => if (((alook o0c0l3 ((nth v0 (Int.toNat (v24l3))).id)).getD 0) == 0) = true then (f_assure_Usages_j4 v0 v24l3 o0c0l3 y2 (aset o2c0l3 ((nth v0 (Int.toNat (v24l3))).id) (nth v0 (Int.toNat (v24l3))))) else f_assure_Usages_j4 v0 v24l3 o0c0l3 y2 o2c0l3)) else (f_assure_Usages_j1 v1 v5l3 o0c0l3 o2c0l3).map (fun z => .inr z)
def f_assure_Usages (v0 : List Usage) (v1 : List Rated) : Option (List Leak) :=
  loop (fun s => f_assure_Usages_l3 v0 v1 s.1 s.2.1 s.2.2.1 s.2.2.2) ([], 0, ([] : List (Int × Int)), ([] : List (Int × Usage)))
def g_assure_differing_l1 (v0control : Int) (v1ids : List Int) (o0c0p : List (Int × Int)) (o1c0p : List (Int × Int)) (v9outl1 : List Leak) (v14l1 : Int) : Option ((List Leak × Int) ⊕ (List Leak)) :=
  if (decide (v14l1 < (v1ids.length : Int))) = true then (ck ((0 : Int) ≤ v14l1 ∧ v14l1 < (v1ids.length : Int)) (if (((alook o0c0p (nth v1ids (Int.toNat (v14l1)))).getD 0) != ((alook o1c0p (nth v1ids (Int.toNat (v14l1)))).getD 0)) = true then (ck (v9outl1.length + ([(⟨v0control, nth v1ids (Int.toNat (v14l1)), (alook o0c0p (nth v1ids (Int.toNat (v14l1)))).getD 0, (alook o1c0p (nth v1ids (Int.toNat (v14l1)))).getD 0⟩ : Leak)] : List Leak).length ≤ 1000000000) (ck ((-9223372036854775808 : Int) ≤ v14l1 + 1 ∧ v14l1 + 1 ≤ (9223372036854775807 : Int)) (some (.inl (v9outl1 ++ ([(⟨v0control, nth v1ids (Int.toNat (v14l1)), (alook o0c0p (nth v1ids (Int.toNat (v14l1)))).getD 0, (alook o1c0p (nth v1ids (Int.toNat (v14l1)))).getD 0⟩ : Leak)] : List Leak), v14l1 + 1))))) else ck ((-9223372036854775808 : Int) ≤ v14l1 + 1 ∧ v14l1 + 1 ≤ (9223372036854775807 : Int)) (some (.inl (v9outl1, v14l1 + 1))))) else some (.inr v9outl1)
def g_assure_differing (v0control : Int) (v1ids : List Int) (o0c0p : List (Int × Int)) (o1c0p : List (Int × Int)) : Option (List Leak) :=
  loop (fun s => g_assure_differing_l1 v0control v1ids o0c0p o1c0p s.1 s.2) (([] : List Leak), 0)
def f_assure_Invoices_j2 (o0c0j1 : List (Int × Int)) (v5idsj2 : List Int) (o1c0j2 : List (Int × Int)) : Option (List Leak) :=
  (g_assure_differing 5 v5idsj2 o0c0j1 o1c0j2).bind fun y1 => some y1
def f_assure_Invoices_l1 (v1lines : List Line) (o0c0j1 : List (Int × Int)) (v5idsl1 : List Int) (v36l1 : Int) (o1c0l1 : List (Int × Int)) : Option ((List Int × Int × (List (Int × Int))) ⊕ (List Leak)) :=
  if (decide (v36l1 < (v1lines.length : Int))) = true then (ck ((0 : Int) ≤ v36l1 ∧ v36l1 < (v1lines.length : Int)) (if ((((nth v1lines (Int.toNat (v36l1))).kind) == 1) || (((nth v1lines (Int.toNat (v36l1))).kind) == 3)) = true then ((f_assure_keys v5idsl1 ((nth v1lines (Int.toNat (v36l1))).sub)).bind fun y2 => ck ((-9223372036854775808 : Int) ≤ ((alook o1c0l1 ((nth v1lines (Int.toNat (v36l1))).sub)).getD 0) + ((nth v1lines (Int.toNat (v36l1))).amount) ∧ ((alook o1c0l1 ((nth v1lines (Int.toNat (v36l1))).sub)).getD 0) + ((nth v1lines (Int.toNat (v36l1))).amount) ≤ (9223372036854775807 : Int)) (ck ((-9223372036854775808 : Int) ≤ v36l1 + 1 ∧ v36l1 + 1 ≤ (9223372036854775807 : Int)) (some (.inl (y2, v36l1 + 1, aset o1c0l1 ((nth v1lines (Int.toNat (v36l1))).sub) (((alook o1c0l1 ((nth v1lines (Int.toNat (v36l1))).sub)).getD 0) + ((nth v1lines (Int.toNat (v36l1))).amount))))))) else ck ((-9223372036854775808 : Int) ≤ v36l1 + 1 ∧ v36l1 + 1 ≤ (9223372036854775807 : Int)) (some (.inl (v5idsl1, v36l1 + 1, o1c0l1))))) else (f_assure_Invoices_j2 o0c0j1 v5idsl1 o1c0l1).map (fun z => .inr z)
def f_assure_Invoices_j1 (v1lines : List Line) (v5idsj1 : List Int) (o0c0j1 : List (Int × Int)) : Option (List Leak) :=
  loop (fun s => f_assure_Invoices_l1 v1lines o0c0j1 s.1 s.2.1 s.2.2) (v5idsj1, 0, ([] : List (Int × Int)))
def f_assure_Invoices_l2 (v0rated : List Rated) (v1lines : List Line) (v5idsl2 : List Int) (v16l2 : Int) (o0c0l2 : List (Int × Int)) : Option ((List Int × Int × (List (Int × Int))) ⊕ (List Leak)) :=
  if (decide (v16l2 < (v0rated.length : Int))) = true then (ck ((0 : Int) ≤ v16l2 ∧ v16l2 < (v0rated.length : Int)) ((f_assure_keys v5idsl2 (((nth v0rated (Int.toNat (v16l2))).usage).sub)).bind fun y3 => ck ((-9223372036854775808 : Int) ≤ ((alook o0c0l2 (((nth v0rated (Int.toNat (v16l2))).usage).sub)).getD 0) + ((nth v0rated (Int.toNat (v16l2))).owed) ∧ ((alook o0c0l2 (((nth v0rated (Int.toNat (v16l2))).usage).sub)).getD 0) + ((nth v0rated (Int.toNat (v16l2))).owed) ≤ (9223372036854775807 : Int)) (ck ((-9223372036854775808 : Int) ≤ v16l2 + 1 ∧ v16l2 + 1 ≤ (9223372036854775807 : Int)) (some (.inl (y3, v16l2 + 1, aset o0c0l2 (((nth v0rated (Int.toNat (v16l2))).usage).sub) (((alook o0c0l2 (((nth v0rated (Int.toNat (v16l2))).usage).sub)).getD 0) + ((nth v0rated (Int.toNat (v16l2))).owed)))))))) else (f_assure_Invoices_j1 v1lines v5idsl2 o0c0l2).map (fun z => .inr z)
def f_assure_Invoices (v0rated : List Rated) (v1lines : List Line) : Option (List Leak) :=
  loop (fun s => f_assure_Invoices_l2 v0rated v1lines s.1 s.2.1 s.2.2) ([], 0, ([] : List (Int × Int)))
def f_billingref54_Same_l1 (v0a : List Leak) (v1b : List Leak) (v5il1 : Int) : Option ((Int) ⊕ Bool) :=
  if (decide (v5il1 < (v0a.length : Int))) = true then (ck ((0 : Int) ≤ v5il1 ∧ v5il1 < (v0a.length : Int)) (ck ((0 : Int) ≤ v5il1 ∧ v5il1 < (v1b.length : Int)) (if (!(eqVs (Leak.vals (nth v0a (Int.toNat (v5il1)))) (Leak.vals (nth v1b (Int.toNat (v5il1)))))) = true then some (.inr false) else ck ((-9223372036854775808 : Int) ≤ v5il1 + 1 ∧ v5il1 + 1 ≤ (9223372036854775807 : Int)) (some (.inl (v5il1 + 1)))))) else some (.inr true)
def f_billingref54_Same (v0a : List Leak) (v1b : List Leak) : Option Bool :=
  if ((v0a.length : Int) != (v1b.length : Int)) = true then some false else loop (fun s => f_billingref54_Same_l1 v0a v1b s) 0
def f_assure_name (v0control : Int) : Option (List UInt8) :=
  if (v0control == 1) = true then some ([105, 110, 116, 97, 107, 101] : List UInt8) else if (v0control == 2) = true then some ([117, 115, 97, 103, 101] : List UInt8) else if (v0control == 3) = true then some ([117, 110, 105, 116, 115] : List UInt8) else if (v0control == 4) = true then some ([109, 111, 110, 101, 121] : List UInt8) else if (v0control == 5) = true then some ([105, 110, 118, 111, 105, 99, 101] : List UInt8) else if (v0control == 6) = true then some ([108, 101, 100, 103, 101, 114] : List UInt8) else some ([63] : List UInt8)
def f_assure_decimal_j2 (v0n : Int) (v5ij2 : Int) (o0c0j2 : List UInt8) : Option (List UInt8) :=
  if (decide (v0n < 0)) = true then (ck ((0 : Int) ≤ v5ij2 ∧ v5ij2 < (20 : Int)) (ck (o0c0j2.length = 20) (ck (([45] : List UInt8).length + (o0c0j2.drop (Int.toNat (v5ij2))).length ≤ 9223372036854775807) (some (([45] : List UInt8) ++ (o0c0j2.drop (Int.toNat (v5ij2)))))))) else ck ((0 : Int) ≤ v5ij2 ∧ v5ij2 < (20 : Int)) (ck (o0c0j2.length = 20) (some (o0c0j2.drop (Int.toNat (v5ij2)))))
def f_assure_decimal_l1 (v0n : Int) (v3ul1 : Int) (v5il1 : Int) (o0c0l1 : List UInt8) : Option ((Int × Int × List UInt8) ⊕ (List UInt8)) :=
  if ((decide (v3ul1 > 0)) || (v5il1 == 20)) = true then (ck ((-9223372036854775808 : Int) ≤ v5il1 - 1 ∧ v5il1 - 1 ≤ (9223372036854775807 : Int)) (ck (10 ≠ (0 : Int)) (ck ((0 : Int) ≤ (v5il1 - 1) ∧ (v5il1 - 1) < (20 : Int)) (ck ((Int.toNat (v5il1 - 1)) < o0c0l1.length) (ck (10 ≠ (0 : Int)) (some (.inl (IntKind.wrap .u64 (Int.tdiv v3ul1 10), v5il1 - 1, o0c0l1.set (Int.toNat (v5il1 - 1)) (UInt8.ofInt (IntKind.wrap .u64 (48 + (Int.tmod v3ul1 10)))))))))))) else (f_assure_decimal_j2 v0n v5il1 o0c0l1).map (fun z => .inr z)
def f_assure_decimal_j1 (v0n : Int) (v3uj1 : Int) : Option (List UInt8) :=
  loop (fun s => f_assure_decimal_l1 v0n s.1 s.2.1 s.2.2) (v3uj1, 20, (List.replicate 20 0 : List UInt8))
def f_assure_decimal (v0n : Int) : Option (List UInt8) :=
  if (decide (v0n < 0)) = true then (f_assure_decimal_j1 v0n (IntKind.wrap .u64 (0 - (IntKind.wrap .u64 v0n)))) else f_assure_decimal_j1 v0n (IntKind.wrap .u64 v0n)
def f_assure_Text_j1 (v10l1 : Int) (v3bj1 : List UInt8) : Option ((List UInt8 × Int) ⊕ (List UInt8)) :=
  ck (v3bj1.length + ([10] : List UInt8).length ≤ 1000000000) (ck ((-9223372036854775808 : Int) ≤ v10l1 + 1 ∧ v10l1 + 1 ≤ (9223372036854775807 : Int)) (some (.inl (v3bj1 ++ ([10] : List UInt8), v10l1 + 1))))
def f_assure_Text_l2 (v0list : List Leak) (v10l1 : Int) (v3bl2 : List UInt8) (v26l2 : Int) : Option ((List UInt8 × Int) ⊕ ((List UInt8 × Int) ⊕ (List UInt8))) :=
  if (decide (v26l2 < 3)) = true then (ck (((0 : Int) ≤ v26l2 ∧ v26l2 < (3 : Int)) ∧ ([(nth v0list (Int.toNat (v10l1))).key, (nth v0list (Int.toNat (v10l1))).left, (nth v0list (Int.toNat (v10l1))).right] : List Int).length = 3) (ck (v3bl2.length + ([32] : List UInt8).length ≤ 1000000000) ((f_assure_decimal (nth ([(nth v0list (Int.toNat (v10l1))).key, (nth v0list (Int.toNat (v10l1))).left, (nth v0list (Int.toNat (v10l1))).right] : List Int) (Int.toNat (v26l2)))).bind fun y2 => ck ((v3bl2 ++ ([32] : List UInt8)).length + y2.length ≤ 1000000000) (ck ((-9223372036854775808 : Int) ≤ v26l2 + 1 ∧ v26l2 + 1 ≤ (9223372036854775807 : Int)) (some (.inl ((v3bl2 ++ ([32] : List UInt8)) ++ y2, v26l2 + 1))))))) else (f_assure_Text_j1 v10l1 v3bl2).map (fun z => .inr z)
def f_assure_Text_l1 (v0list : List Leak) (v3bl1 : List UInt8) (v10l1 : Int) : Option ((List UInt8 × Int) ⊕ (List UInt8)) :=
  if (decide (v10l1 < (v0list.length : Int))) = true then (ck ((0 : Int) ≤ v10l1 ∧ v10l1 < (v0list.length : Int)) ((f_assure_name ((nth v0list (Int.toNat (v10l1))).ctl)).bind fun y1 => ck (v3bl1.length + y1.length ≤ 1000000000) (loop (fun s => f_assure_Text_l2 v0list v10l1 s.1 s.2) (v3bl1 ++ y1, 0)))) else some (.inr v3bl1)
def f_assure_Text (v0list : List Leak) : Option (List UInt8) :=
  loop (fun s => f_assure_Text_l1 v0list s.1 s.2) (([] : List UInt8), 0)
def f_dedup_Count_l1 (v0seen : List Range) (v3nl1 : Int) (v8l1 : Int) : Option ((Int × Int) ⊕ Int) :=
  if (decide (v8l1 < (v0seen.length : Int))) = true then (ck ((0 : Int) ≤ v8l1 ∧ v8l1 < (v0seen.length : Int)) (ck ((-9223372036854775808 : Int) ≤ ((nth v0seen (Int.toNat (v8l1))).to_) - ((nth v0seen (Int.toNat (v8l1))).from_) ∧ ((nth v0seen (Int.toNat (v8l1))).to_) - ((nth v0seen (Int.toNat (v8l1))).from_) ≤ (9223372036854775807 : Int)) (ck ((-9223372036854775808 : Int) ≤ (((nth v0seen (Int.toNat (v8l1))).to_) - ((nth v0seen (Int.toNat (v8l1))).from_)) + 1 ∧ (((nth v0seen (Int.toNat (v8l1))).to_) - ((nth v0seen (Int.toNat (v8l1))).from_)) + 1 ≤ (9223372036854775807 : Int)) (ck ((-9223372036854775808 : Int) ≤ v3nl1 + ((((nth v0seen (Int.toNat (v8l1))).to_) - ((nth v0seen (Int.toNat (v8l1))).from_)) + 1) ∧ v3nl1 + ((((nth v0seen (Int.toNat (v8l1))).to_) - ((nth v0seen (Int.toNat (v8l1))).from_)) + 1) ≤ (9223372036854775807 : Int)) (ck ((-9223372036854775808 : Int) ≤ v8l1 + 1 ∧ v8l1 + 1 ≤ (9223372036854775807 : Int)) (some (.inl (v3nl1 + ((((nth v0seen (Int.toNat (v8l1))).to_) - ((nth v0seen (Int.toNat (v8l1))).from_)) + 1), v8l1 + 1)))))))) else some (.inr v3nl1)
def f_dedup_Count (v0seen : List Range) : Option Int :=
  loop (fun s => f_dedup_Count_l1 v0seen s.1 s.2) (0, 0)
def f_mediation_Balance_j1 (v0m : Mediation) (o2c0j1 : Int) : Option Balance :=
  (f_dedup_Count v0m.intake.seen).bind fun y1 => ck ((-9223372036854775808 : Int) ≤ y1 - (v0m.usages.length : Int) ∧ y1 - (v0m.usages.length : Int) ≤ (9223372036854775807 : Int)) (ck ((-9223372036854775808 : Int) ≤ (y1 - (v0m.usages.length : Int)) - (v0m.suspense.length : Int) ∧ (y1 - (v0m.usages.length : Int)) - (v0m.suspense.length : Int) ≤ (9223372036854775807 : Int)) (ck ((-9223372036854775808 : Int) ≤ ((y1 - (v0m.usages.length : Int)) - (v0m.suspense.length : Int)) - (v0m.intake.open_.length : Int) ∧ ((y1 - (v0m.usages.length : Int)) - (v0m.suspense.length : Int)) - (v0m.intake.open_.length : Int) ≤ (9223372036854775807 : Int)) (some (⟨o2c0j1, (v0m.usages.length : Int), ((y1 - (v0m.usages.length : Int)) - (v0m.suspense.length : Int)) - (v0m.intake.open_.length : Int), (v0m.rejects.length : Int), (v0m.suspense.length : Int), (v0m.intake.open_.length : Int)⟩ : Balance))))
def f_mediation_Balance_l1 (v0m : Mediation) (v24l1 : Int) (o2c0l1 : Int) : Option ((Int × Int) ⊕ Balance) :=
  if (decide (v24l1 < (v0m.intake.heads.length : Int))) = true then (ck ((0 : Int) ≤ v24l1 ∧ v24l1 < (v0m.intake.heads.length : Int)) (ck ((-9223372036854775808 : Int) ≤ o2c0l1 + ((nth v0m.intake.heads (Int.toNat (v24l1))).count) ∧ o2c0l1 + ((nth v0m.intake.heads (Int.toNat (v24l1))).count) ≤ (9223372036854775807 : Int)) (ck ((-9223372036854775808 : Int) ≤ v24l1 + 1 ∧ v24l1 + 1 ≤ (9223372036854775807 : Int)) (some (.inl (v24l1 + 1, o2c0l1 + ((nth v0m.intake.heads (Int.toNat (v24l1))).count))))))) else (f_mediation_Balance_j1 v0m o2c0l1).map (fun z => .inr z)
def f_mediation_Balance (v0m : Mediation) : Option Balance :=
  loop (fun s => f_mediation_Balance_l1 v0m s.1 s.2) (0, 0)
def g_assure_Intake_1 (v0key : Int) (v1left : Int) (v2right : Int) (y0t0p : List Leak) : Option (List Leak) :=
  if (v1left != v2right) = true then (ck (y0t0p.length + ([(⟨1, v0key, v1left, v2right⟩ : Leak)] : List Leak).length ≤ 1000000000) (some (y0t0p ++ ([(⟨1, v0key, v1left, v2right⟩ : Leak)] : List Leak)))) else some y0t0p
def f_assure_Intake (v0m : Mediation) (v1read : Int) : Option (List Leak) :=
  (f_mediation_Balance v0m).bind fun y1 => (g_assure_Intake_1 1 v1read y1.read ([] : List Leak)).bind fun y2 => ck ((-9223372036854775808 : Int) ≤ y1.accepted + y1.merged ∧ y1.accepted + y1.merged ≤ (9223372036854775807 : Int)) (ck ((-9223372036854775808 : Int) ≤ (y1.accepted + y1.merged) + y1.rejected ∧ (y1.accepted + y1.merged) + y1.rejected ≤ (9223372036854775807 : Int)) (ck ((-9223372036854775808 : Int) ≤ ((y1.accepted + y1.merged) + y1.rejected) + y1.suspended ∧ ((y1.accepted + y1.merged) + y1.rejected) + y1.suspended ≤ (9223372036854775807 : Int)) (ck ((-9223372036854775808 : Int) ≤ (((y1.accepted + y1.merged) + y1.rejected) + y1.suspended) + y1.open_ ∧ (((y1.accepted + y1.merged) + y1.rejected) + y1.suspended) + y1.open_ ≤ (9223372036854775807 : Int)) ((g_assure_Intake_1 2 y1.read ((((y1.accepted + y1.merged) + y1.rejected) + y1.suspended) + y1.open_) y2).bind fun y3 => some y3))))
def f_billinglaw54_awake : Option Bool :=
  (f_assure_Usages ([(⟨3, 0, 0, 0, ([] : List UInt8), ([] : List UInt8), 0, 0, 0, false, 0, 0⟩ : Usage)] : List Usage) ([] : List Rated)).bind fun y1 => (f_assure_Invoices ([(⟨(⟨0, 0, 0, 2, ([] : List UInt8), ([] : List UInt8), 0, 0, 0, false, 0, 0⟩ : Usage), 0, ([] : List UInt8), 0, ([] : List UInt8), ([] : List Take), ([] : List Segment), 0, 0, 0, ([] : List Given), 0, 700⟩ : Rated)] : List Rated) ([(⟨3, 2, ([] : List UInt8), ([] : List UInt8), 0, 0, 500, 0⟩ : Line)] : List Line)).bind fun y2 => (f_billingref54_Same y1 ([(⟨2, 3, 1, 0⟩ : Leak)] : List Leak)).bind fun y3 => (gcall y3 (f_assure_Text y2)).bind fun y4 => (gcall (y3 && (y4 == ([105, 110, 118, 111, 105, 99, 101, 32, 50, 32, 55, 48, 48, 32, 53, 48, 48, 10] : List UInt8))) (f_assure_Text y1)).bind fun y5 => (gcall ((y3 && (y4 == ([105, 110, 118, 111, 105, 99, 101, 32, 50, 32, 55, 48, 48, 32, 53, 48, 48, 10] : List UInt8))) && (y5 == ([117, 115, 97, 103, 101, 32, 51, 32, 49, 32, 48, 10] : List UInt8))) (f_assure_Intake (⟨(⟨([] : List Range), ([] : List Record), ([] : List Head)⟩ : Intake), ([] : List Usage), ([] : List Record), ([] : List Reject)⟩ : Mediation) 0)).bind fun y6 => (gcall (((y3 && (y4 == ([105, 110, 118, 111, 105, 99, 101, 32, 50, 32, 55, 48, 48, 32, 53, 48, 48, 10] : List UInt8))) && (y5 == ([117, 115, 97, 103, 101, 32, 51, 32, 49, 32, 48, 10] : List UInt8))) && ((y6.length : Int) == 0)) (f_assure_Intake (⟨(⟨([] : List Range), ([] : List Record), ([] : List Head)⟩ : Intake), ([] : List Usage), ([] : List Record), ([] : List Reject)⟩ : Mediation) 1)).bind fun y7 => some ((((y3 && (y4 == ([105, 110, 118, 111, 105, 99, 101, 32, 50, 32, 55, 48, 48, 32, 53, 48, 48, 10] : List UInt8))) && (y5 == ([117, 115, 97, 103, 101, 32, 51, 32, 49, 32, 48, 10] : List UInt8))) && ((y6.length : Int) == 0)) && ((y7.length : Int) == 1))
def f_billingref47_Clone (v0e : Entry) : Option Entry :=
  ck (v0e.posts.length ≤ 1000000000) (some v0e)
def f_billingref47_CloneAll_l1 (v0list : List Entry) (v3outl1 : List Entry) (v4il1 : Int) : Option ((List Entry × Int) ⊕ (List Entry)) :=
  if (decide (v4il1 < (v0list.length : Int))) = true then (ck ((0 : Int) ≤ v4il1 ∧ v4il1 < (v0list.length : Int)) ((f_billingref47_Clone (nth v0list (Int.toNat (v4il1)))).bind fun y1 => ck (v3outl1.length + ([y1] : List Entry).length ≤ 1000000000) (ck ((-9223372036854775808 : Int) ≤ v4il1 + 1 ∧ v4il1 + 1 ≤ (9223372036854775807 : Int)) (some (.inl (v3outl1 ++ ([y1] : List Entry), v4il1 + 1)))))) else some (.inr v3outl1)
def f_billingref47_CloneAll (v0list : List Entry) : Option (List Entry) :=
  loop (fun s => f_billingref47_CloneAll_l1 v0list s.1 s.2) (([] : List Entry), 0)
def f_assure_Books_j3 (v5j1 : List Int) (o0c0j1 : List (Int × Int)) (o1c0j2 : List (Int × Int)) (v18j3 : List Leak) : Option (List Leak) :=
  (g_assure_differing 6 v5j1 o0c0j1 o1c0j2).bind fun y1 => ck (v18j3.length + y1.length ≤ 1000000000) (some (v18j3 ++ y1))
def f_assure_Books_j2 (v5j1 : List Int) (o0c0j1 : List (Int × Int)) (v11j2 : Int) (o1c0j2 : List (Int × Int)) : Option (List Leak) :=
  if (v11j2 != 0) = true then (ck (([] : List Leak).length + ([(⟨6, 0, v11j2, 0⟩ : Leak)] : List Leak).length ≤ 1000000000) (f_assure_Books_j3 v5j1 o0c0j1 o1c0j2 (([] : List Leak) ++ ([(⟨6, 0, v11j2, 0⟩ : Leak)] : List Leak)))) else f_assure_Books_j3 v5j1 o0c0j1 o1c0j2 ([] : List Leak)
def f_assure_Books_l2 (v1 : List Entry) (o2c0j1 : List ((List UInt8) × Int)) (v49l1 : Int) (v11l2 : Int) (v56l2 : Int) (o1c0l2 : List (Int × Int)) : Option ((Int × Int × (List (Int × Int))) ⊕ ((Int × Int × (List (Int × Int))) ⊕ (List Leak))) :=
  if (decide (v56l2 < (((nth v1 (Int.toNat (v49l1))).posts).length : Int))) = true then (ck ((0 : Int) ≤ v56l2 ∧ v56l2 < (((nth v1 (Int.toNat (v49l1))).posts).length : Int)) (ck ((-9223372036854775808 : Int) ≤ v11l2 + ((nth ((nth v1 (Int.toNat (v49l1))).posts) (Int.toNat (v56l2))).amount) ∧ v11l2 + ((nth ((nth v1 (Int.toNat (v49l1))).posts) (Int.toNat (v56l2))).amount) ≤ (9223372036854775807 : Int)) (if (((alook o2c0j1 ((nth ((nth v1 (Int.toNat (v49l1))).posts) (Int.toNat (v56l2))).account)).isSome) && (((nth v1 (Int.toNat (v49l1))).text) == ([105, 110, 118, 111, 105, 99, 101] : List UInt8))) = true then (ck ((-9223372036854775808 : Int) ≤ ((alook o1c0l2 ((alook o2c0j1 ((nth ((nth v1 (Int.toNat (v49l1))).posts) (Int.toNat (v56l2))).account)).getD 0)).getD 0) + ((nth ((nth v1 (Int.toNat (v49l1))).posts) (Int.toNat (v56l2))).amount) ∧ ((alook o1c0l2 ((alook o2c0j1 ((nth ((nth v1 (Int.toNat (v49l1))).posts) (Int.toNat (v56l2))).account)).getD 0)).getD 0) + ((nth ((nth v1 (Int.toNat (v49l1))).posts) (Int.toNat (v56l2))).amount) ≤ (9223372036854775807 : Int)) (ck ((-9223372036854775808 : Int) ≤ v56l2 + 1 ∧ v56l2 + 1 ≤ (9223372036854775807 : Int)) (some (.inl (v11l2 + ((nth ((nth v1 (Int.toNat (v49l1))).posts) (Int.toNat (v56l2))).amount), v56l2 + 1, aset o1c0l2 ((alook o2c0j1 ((nth ((nth v1 (Int.toNat (v49l1))).posts) (Int.toNat (v56l2))).account)).getD 0) (((alook o1c0l2 ((alook o2c0j1 ((nth ((nth v1 (Int.toNat (v49l1))).posts) (Int.toNat (v56l2))).account)).getD 0)).getD 0) + ((nth ((nth v1 (Int.toNat (v49l1))).posts) (Int.toNat (v56l2))).amount))))))) else ck ((-9223372036854775808 : Int) ≤ v56l2 + 1 ∧ v56l2 + 1 ≤ (9223372036854775807 : Int)) (some (.inl (v11l2 + ((nth ((nth v1 (Int.toNat (v49l1))).posts) (Int.toNat (v56l2))).amount), v56l2 + 1, o1c0l2)))))) else ck ((-9223372036854775808 : Int) ≤ v49l1 + 1 ∧ v49l1 + 1 ≤ (9223372036854775807 : Int)) (some (.inr (.inl (v11l2, v49l1 + 1, o1c0l2))))
def f_assure_Books_l1 (v1 : List Entry) (v5j1 : List Int) (o0c0j1 : List (Int × Int)) (o2c0j1 : List ((List UInt8) × Int)) (v11l1 : Int) (v49l1 : Int) (o1c0l1 : List (Int × Int)) : Option ((Int × Int × (List (Int × Int))) ⊕ (List Leak)) :=
  if (decide (v49l1 < (v1.length : Int))) = true then (ck ((0 : Int) ≤ v49l1 ∧ v49l1 < (v1.length : Int)) (loop (fun s => f_assure_Books_l2 v1 o2c0j1 v49l1 s.1 s.2.1 s.2.2) (v11l1, 0, o1c0l1))) else (f_assure_Books_j2 v5j1 o0c0j1 v11l1 o1c0l1).map (fun z => .inr z)
def f_assure_Books_j1 (v1 : List Entry) (v5j1 : List Int) (o0c0j1 : List (Int × Int)) (o2c0j1 : List ((List UInt8) × Int)) : Option (List Leak) :=
  loop (fun s => f_assure_Books_l1 v1 v5j1 o0c0j1 o2c0j1 s.1 s.2.1 s.2.2) (0, 0, ([] : List (Int × Int)))
def f_assure_Books_l3 (v0 : List Invoice) (v1 : List Entry) (v5l3 : List Int) (v24l3 : Int) (o0c0l3 : List (Int × Int)) (o2c0l3 : List ((List UInt8) × Int)) : Option ((List Int × Int × (List (Int × Int)) × (List ((List UInt8) × Int))) ⊕ (List Leak)) :=
  if (decide (v24l3 < (v0.length : Int))) = true then (ck ((0 : Int) ≤ v24l3 ∧ v24l3 < (v0.length : Int)) ((f_assure_keys v5l3 ((nth v0 (Int.toNat (v24l3))).account)).bind fun y2 => (f_assure_decimal ((nth v0 (Int.toNat (v24l3))).account)).bind fun y3 => ck (([114, 101, 99, 101, 105, 118, 97, 98, 108, 101, 58] : List UInt8).length + y3.length ≤ 9223372036854775807) (ck ((-9223372036854775808 : Int) ≤ ((alook o0c0l3 ((nth v0 (Int.toNat (v24l3))).account)).getD 0) + ((nth v0 (Int.toNat (v24l3))).total) ∧ ((alook o0c0l3 ((nth v0 (Int.toNat (v24l3))).account)).getD 0) + ((nth v0 (Int.toNat (v24l3))).total) ≤ (9223372036854775807 : Int)) (ck ((-9223372036854775808 : Int) ≤ v24l3 + 1 ∧ v24l3 + 1 ≤ (9223372036854775807 : Int)) (some (.inl (y2, v24l3 + 1, aset o0c0l3 ((nth v0 (Int.toNat (v24l3))).account) (((alook o0c0l3 ((nth v0 (Int.toNat (v24l3))).account)).getD 0) + ((nth v0 (Int.toNat (v24l3))).total)), aset o2c0l3 (([114, 101, 99, 101, 105, 118, 97, 98, 108, 101, 58] : List UInt8) ++ y3) ((nth v0 (Int.toNat (v24l3))).account)))))))) else (f_assure_Books_j1 v1 v5l3 o0c0l3 o2c0l3).map (fun z => .inr z)
def f_assure_Books (v0 : List Invoice) (v1 : List Entry) : Option (List Leak) :=
  loop (fun s => f_assure_Books_l3 v0 v1 s.1 s.2.1 s.2.2.1 s.2.2.2) ([], 0, ([] : List (Int × Int)), ([] : List ((List UInt8) × Int)))
def f_billingref54_Keys_j1 (v0list : List Int) (v1n : Int) (v5atj1 : Int) : Option (List Int) :=
  ck ((decide (v5atj1 < (v0list.length : Int))) = true → ((0 : Int) ≤ v5atj1 ∧ v5atj1 < (v0list.length : Int))) (if ((decide (v5atj1 < (v0list.length : Int))) && ((nth v0list (Int.toNat (v5atj1))) == v1n)) = true then some v0list else ck ((0 : Int) ≤ v5atj1 ∧ v5atj1 ≤ (v0list.length : Int)) (ck (([] : List Int).length + (v0list.take (Int.toNat (v5atj1))).length ≤ 1000000000) (ck ((([] : List Int) ++ (v0list.take (Int.toNat (v5atj1)))).length + ([v1n] : List Int).length ≤ 1000000000) (ck ((0 : Int) ≤ v5atj1 ∧ v5atj1 ≤ (v0list.length : Int)) (ck (((([] : List Int) ++ (v0list.take (Int.toNat (v5atj1)))) ++ ([v1n] : List Int)).length + (v0list.drop (Int.toNat (v5atj1))).length ≤ 1000000000) (some (((([] : List Int) ++ (v0list.take (Int.toNat (v5atj1)))) ++ ([v1n] : List Int)) ++ (v0list.drop (Int.toNat (v5atj1))))))))))
def f_billingref54_Keys_l1 (v0list : List Int) (v1n : Int) (v5atl1 : Int) : Option ((Int) ⊕ (List Int)) :=
  ck ((decide (v5atl1 < (v0list.length : Int))) = true → ((0 : Int) ≤ v5atl1 ∧ v5atl1 < (v0list.length : Int))) (if ((decide (v5atl1 < (v0list.length : Int))) && (decide ((nth v0list (Int.toNat (v5atl1))) < v1n))) = true then (ck ((-9223372036854775808 : Int) ≤ v5atl1 + 1 ∧ v5atl1 + 1 ≤ (9223372036854775807 : Int)) (some (.inl (v5atl1 + 1)))) else (f_billingref54_Keys_j1 v0list v1n v5atl1).map (fun z => .inr z))
def f_billingref54_Keys (v0list : List Int) (v1n : Int) : Option (List Int) :=
  loop (fun s => f_billingref54_Keys_l1 v0list v1n s) 0
def f_billingref01_Number_l1 (v0nl1 : Int) (v3sl1 : List UInt8) : Option ((Int × List UInt8) ⊕ (List UInt8)) :=
  if (decide (v0nl1 > 0)) = true then (ck (10 ≠ (0 : Int)) (ck ((-9223372036854775808 : Int) ≤ 48 + (Int.tmod v0nl1 10) ∧ 48 + (Int.tmod v0nl1 10) ≤ (9223372036854775807 : Int)) (ck (([UInt8.ofInt (48 + (Int.tmod v0nl1 10))] : List UInt8).length + v3sl1.length ≤ 9223372036854775807) (ck (10 ≠ (0 : Int) ∧ (-9223372036854775808 : Int) ≤ Int.tdiv v0nl1 10 ∧ Int.tdiv v0nl1 10 ≤ (9223372036854775807 : Int)) (some (.inl (Int.tdiv v0nl1 10, ([UInt8.ofInt (48 + (Int.tmod v0nl1 10))] : List UInt8) ++ v3sl1))))))) else some (.inr v3sl1)
def f_billingref01_Number (v0n : Int) : Option (List UInt8) :=
  ck (10 ≠ (0 : Int)) (ck ((-9223372036854775808 : Int) ≤ 48 + (Int.tmod v0n 10) ∧ 48 + (Int.tmod v0n 10) ≤ (9223372036854775807 : Int)) (ck (10 ≠ (0 : Int) ∧ (-9223372036854775808 : Int) ≤ Int.tdiv v0n 10 ∧ Int.tdiv v0n 10 ≤ (9223372036854775807 : Int)) (loop (fun s => f_billingref01_Number_l1 s.1 s.2) (Int.tdiv v0n 10, ([UInt8.ofInt (48 + (Int.tmod v0n 10))] : List UInt8)))))
def f_billingref01_Int (v0n : Int) : Option (List UInt8) :=
  if (decide (v0n ≥ 0)) = true then ((f_billingref01_Number v0n).bind fun y1 => some y1) else if (decide (v0n > (-10))) = true then (ck ((-9223372036854775807 : Int) ≤ v0n ∧ v0n ≤ 9223372036854775807) ((f_billingref01_Number (-v0n)).bind fun y2 => ck (([45] : List UInt8).length + y2.length ≤ 9223372036854775807) (some (([45] : List UInt8) ++ y2)))) else ck (10 ≠ (0 : Int) ∧ (-9223372036854775808 : Int) ≤ Int.tdiv v0n 10 ∧ Int.tdiv v0n 10 ≤ (9223372036854775807 : Int)) (ck ((-9223372036854775807 : Int) ≤ Int.tdiv v0n 10 ∧ Int.tdiv v0n 10 ≤ 9223372036854775807) ((f_billingref01_Number (-(Int.tdiv v0n 10))).bind fun y3 => ck (([45] : List UInt8).length + y3.length ≤ 9223372036854775807) (ck (10 ≠ (0 : Int)) (ck ((-9223372036854775807 : Int) ≤ Int.tmod v0n 10 ∧ Int.tmod v0n 10 ≤ 9223372036854775807) ((f_billingref01_Number (-(Int.tmod v0n 10))).bind fun y4 => ck ((([45] : List UInt8) ++ y3).length + y4.length ≤ 9223372036854775807) (some ((([45] : List UInt8) ++ y3) ++ y4)))))))
def f_billingref47_Receivable (v0account : Int) : Option (List UInt8) :=
  (f_billingref01_Int v0account).bind fun y1 => ck (([114, 101, 99, 101, 105, 118, 97, 98, 108, 101, 58] : List UInt8).length + y1.length ≤ 9223372036854775807) (some (([114, 101, 99, 101, 105, 118, 97, 98, 108, 101, 58] : List UInt8) ++ y1))
def f_billingref47_Balance_l2 (v0list : List Entry) (v1account : List UInt8) (v6il1 : Int) (v5suml2 : Int) (v7kl2 : Int) : Option ((Int × Int) ⊕ ((Int × Int) ⊕ Int)) :=
  ck ((0 : Int) ≤ v6il1 ∧ v6il1 < (v0list.length : Int)) (if (decide (v7kl2 < (((nth v0list (Int.toNat (v6il1))).posts).length : Int))) = true then (ck ((0 : Int) ≤ v6il1 ∧ v6il1 < (v0list.length : Int)) (ck ((0 : Int) ≤ v7kl2 ∧ v7kl2 < (((nth v0list (Int.toNat (v6il1))).posts).length : Int)) (if (((nth ((nth v0list (Int.toNat (v6il1))).posts) (Int.toNat (v7kl2))).account) == v1account) = true then (ck ((0 : Int) ≤ v6il1 ∧ v6il1 < (v0list.length : Int)) (ck ((0 : Int) ≤ v7kl2 ∧ v7kl2 < (((nth v0list (Int.toNat (v6il1))).posts).length : Int)) (ck ((-9223372036854775808 : Int) ≤ v5suml2 + ((nth ((nth v0list (Int.toNat (v6il1))).posts) (Int.toNat (v7kl2))).amount) ∧ v5suml2 + ((nth ((nth v0list (Int.toNat (v6il1))).posts) (Int.toNat (v7kl2))).amount) ≤ (9223372036854775807 : Int)) (ck ((-9223372036854775808 : Int) ≤ v7kl2 + 1 ∧ v7kl2 + 1 ≤ (9223372036854775807 : Int)) (some (.inl (v5suml2 + ((nth ((nth v0list (Int.toNat (v6il1))).posts) (Int.toNat (v7kl2))).amount), v7kl2 + 1))))))) else ck ((-9223372036854775808 : Int) ≤ v7kl2 + 1 ∧ v7kl2 + 1 ≤ (9223372036854775807 : Int)) (some (.inl (v5suml2, v7kl2 + 1)))))) else ck ((-9223372036854775808 : Int) ≤ v6il1 + 1 ∧ v6il1 + 1 ≤ (9223372036854775807 : Int)) (some (.inr (.inl (v5suml2, v6il1 + 1)))))
def f_billingref47_Balance_l1 (v0list : List Entry) (v1account : List UInt8) (v5suml1 : Int) (v6il1 : Int) : Option ((Int × Int) ⊕ Int) :=
  if (decide (v6il1 < (v0list.length : Int))) = true then (loop (fun s => f_billingref47_Balance_l2 v0list v1account v6il1 s.1 s.2) (v5suml1, 0)) else some (.inr v5suml1)
def f_billingref47_Balance (v0list : List Entry) (v1account : List UInt8) : Option Int :=
  loop (fun s => f_billingref47_Balance_l1 v0list v1account s.1 s.2) (0, 0)
def f_billingref54_Books_j5 (v9j3 : List Int) (v5l1 : List Leak) (v11l1 : Int) (v12j4 : Int) (v13j5 : Int) : Option ((List Leak × Int) ⊕ (List Leak)) :=
  if (v12j4 != v13j5) = true then (ck ((0 : Int) ≤ v11l1 ∧ v11l1 < (v9j3.length : Int)) (ck (v5l1.length + ([(⟨6, nth v9j3 (Int.toNat (v11l1)), v12j4, v13j5⟩ : Leak)] : List Leak).length ≤ 1000000000) (ck ((-9223372036854775808 : Int) ≤ v11l1 + 1 ∧ v11l1 + 1 ≤ (9223372036854775807 : Int)) (some (.inl (v5l1 ++ ([(⟨6, nth v9j3 (Int.toNat (v11l1)), v12j4, v13j5⟩ : Leak)] : List Leak), v11l1 + 1)))))) else ck ((-9223372036854775808 : Int) ≤ v11l1 + 1 ∧ v11l1 + 1 ≤ (9223372036854775807 : Int)) (some (.inl (v5l1, v11l1 + 1)))
def f_billingref54_Books_l2 (v1 : List Entry) (v9j3 : List Int) (v5l1 : List Leak) (v11l1 : Int) (v12j4 : Int) (v13l2 : Int) (v15l2 : Int) : Option ((Int × Int) ⊕ ((List Leak × Int) ⊕ (List Leak))) :=
  if (decide (v15l2 < (v1.length : Int))) = true then (ck ((0 : Int) ≤ v15l2 ∧ v15l2 < (v1.length : Int)) (if (((nth v1 (Int.toNat (v15l2))).text) == ([105, 110, 118, 111, 105, 99, 101] : List UInt8)) = true then (ck ((-9223372036854775808 : Int) ≤ v15l2 + 1 ∧ v15l2 + 1 ≤ (9223372036854775807 : Int)) (ck ((0 : Int) ≤ v15l2 ∧ v15l2 ≤ v15l2 + 1 ∧ v15l2 + 1 ≤ (v1.length : Int)) (ck ((0 : Int) ≤ v11l1 ∧ v11l1 < (v9j3.length : Int)) ((f_billingref47_Receivable (nth v9j3 (Int.toNat (v11l1)))).bind fun y1 => (f_billingref47_Balance ((v1.take (Int.toNat (v15l2 + 1))).drop (Int.toNat (v15l2))) y1).bind fun y2 => ck ((-9223372036854775808 : Int) ≤ v13l2 + y2 ∧ v13l2 + y2 ≤ (9223372036854775807 : Int)) (ck ((-9223372036854775808 : Int) ≤ v15l2 + 1 ∧ v15l2 + 1 ≤ (9223372036854775807 : Int)) (some (.inl (v13l2 + y2, v15l2 + 1)))))))) else ck ((-9223372036854775808 : Int) ≤ v15l2 + 1 ∧ v15l2 + 1 ≤ (9223372036854775807 : Int)) (some (.inl (v13l2, v15l2 + 1))))) else (f_billingref54_Books_j5 v9j3 v5l1 v11l1 v12j4 v13l2).map (fun z => .inr z)
def f_billingref54_Books_j4 (v1 : List Entry) (v9j3 : List Int) (v5l1 : List Leak) (v11l1 : Int) (v12j4 : Int) : Option ((List Leak × Int) ⊕ (List Leak)) :=
  loop (fun s => f_billingref54_Books_l2 v1 v9j3 v5l1 v11l1 v12j4 s.1 s.2) (0, 0)
def f_billingref54_Books_l3 (v0 : List Invoice) (v1 : List Entry) (v9j3 : List Int) (v5l1 : List Leak) (v11l1 : Int) (v12l3 : Int) (v14l3 : Int) : Option ((Int × Int) ⊕ ((List Leak × Int) ⊕ (List Leak))) :=
  if (decide (v14l3 < (v0.length : Int))) = true then (ck ((0 : Int) ≤ v14l3 ∧ v14l3 < (v0.length : Int)) (ck ((0 : Int) ≤ v11l1 ∧ v11l1 < (v9j3.length : Int)) (if (((nth v0 (Int.toNat (v14l3))).account) == (nth v9j3 (Int.toNat (v11l1)))) = true then (ck ((0 : Int) ≤ v14l3 ∧ v14l3 < (v0.length : Int)) (ck ((-9223372036854775808 : Int) ≤ v12l3 + ((nth v0 (Int.toNat (v14l3))).total) ∧ v12l3 + ((nth v0 (Int.toNat (v14l3))).total) ≤ (9223372036854775807 : Int)) (ck ((-9223372036854775808 : Int) ≤ v14l3 + 1 ∧ v14l3 + 1 ≤ (9223372036854775807 : Int)) (some (.inl (v12l3 + ((nth v0 (Int.toNat (v14l3))).total), v14l3 + 1)))))) else ck ((-9223372036854775808 : Int) ≤ v14l3 + 1 ∧ v14l3 + 1 ≤ (9223372036854775807 : Int)) (some (.inl (v12l3, v14l3 + 1)))))) else (f_billingref54_Books_j4 v1 v9j3 v5l1 v11l1 v12l3).map (fun z => .inr z)
def f_billingref54_Books_l1 (v0 : List Invoice) (v1 : List Entry) (v9j3 : List Int) (v5l1 : List Leak) (v11l1 : Int) : Option ((List Leak × Int) ⊕ (List Leak)) :=
  if (decide (v11l1 < (v9j3.length : Int))) = true then (loop (fun s => f_billingref54_Books_l3 v0 v1 v9j3 v5l1 v11l1 s.1 s.2) (0, 0)) else some (.inr v5l1)
def f_billingref54_Books_j3 (v0 : List Invoice) (v1 : List Entry) (v5j2 : List Leak) (v9j3 : List Int) : Option (List Leak) :=
  loop (fun s => f_billingref54_Books_l1 v0 v1 v9j3 s.1 s.2) (v5j2, 0)
def f_billingref54_Books_l4 (v0 : List Invoice) (v1 : List Entry) (v5j2 : List Leak) (v9l4 : List Int) (v10l4 : Int) : Option ((List Int × Int) ⊕ (List Leak)) :=
  if (decide (v10l4 < (v0.length : Int))) = true then (ck ((0 : Int) ≤ v10l4 ∧ v10l4 < (v0.length : Int)) ((f_billingref54_Keys v9l4 ((nth v0 (Int.toNat (v10l4))).account)).bind fun y3 => ck ((-9223372036854775808 : Int) ≤ v10l4 + 1 ∧ v10l4 + 1 ≤ (9223372036854775807 : Int)) (some (.inl (y3, v10l4 + 1))))) else (f_billingref54_Books_j3 v0 v1 v5j2 v9l4).map (fun z => .inr z)
def f_billingref54_Books_j2 (v0 : List Invoice) (v1 : List Entry) (v5j2 : List Leak) : Option (List Leak) :=
  loop (fun s => f_billingref54_Books_l4 v0 v1 v5j2 s.1 s.2) ([], 0)
def f_billingref54_Books_j1 (v0 : List Invoice) (v1 : List Entry) (v6j1 : Int) : Option (List Leak) :=
  if (v6j1 != 0) = true then (ck (([] : List Leak).length + ([(⟨6, 0, v6j1, 0⟩ : Leak)] : List Leak).length ≤ 1000000000) (f_billingref54_Books_j2 v0 v1 (([] : List Leak) ++ ([(⟨6, 0, v6j1, 0⟩ : Leak)] : List Leak)))) else f_billingref54_Books_j2 v0 v1 ([] : List Leak)
def f_billingref54_Books_l6 (v1 : List Entry) (v7l5 : Int) (v6l6 : Int) (v8l6 : Int) : Option ((Int × Int) ⊕ ((Int × Int) ⊕ (List Leak))) :=
  ck ((0 : Int) ≤ v7l5 ∧ v7l5 < (v1.length : Int)) (if (decide (v8l6 < (((nth v1 (Int.toNat (v7l5))).posts).length : Int))) = true then (ck ((0 : Int) ≤ v7l5 ∧ v7l5 < (v1.length : Int)) (ck ((0 : Int) ≤ v8l6 ∧ v8l6 < (((nth v1 (Int.toNat (v7l5))).posts).length : Int)) (ck ((-9223372036854775808 : Int) ≤ v6l6 + ((nth ((nth v1 (Int.toNat (v7l5))).posts) (Int.toNat (v8l6))).amount) ∧ v6l6 + ((nth ((nth v1 (Int.toNat (v7l5))).posts) (Int.toNat (v8l6))).amount) ≤ (9223372036854775807 : Int)) (ck ((-9223372036854775808 : Int) ≤ v8l6 + 1 ∧ v8l6 + 1 ≤ (9223372036854775807 : Int)) (some (.inl (v6l6 + ((nth ((nth v1 (Int.toNat (v7l5))).posts) (Int.toNat (v8l6))).amount), v8l6 + 1))))))) else ck ((-9223372036854775808 : Int) ≤ v7l5 + 1 ∧ v7l5 + 1 ≤ (9223372036854775807 : Int)) (some (.inr (.inl (v6l6, v7l5 + 1)))))
def f_billingref54_Books_l5 (v0 : List Invoice) (v1 : List Entry) (v6l5 : Int) (v7l5 : Int) : Option ((Int × Int) ⊕ (List Leak)) :=
  if (decide (v7l5 < (v1.length : Int))) = true then (loop (fun s => f_billingref54_Books_l6 v1 v7l5 s.1 s.2) (v6l5, 0)) else (f_billingref54_Books_j1 v0 v1 v6l5).map (fun z => .inr z)
def f_billingref54_Books (v0 : List Invoice) (v1 : List Entry) : Option (List Leak) :=
  loop (fun s => f_billingref54_Books_l5 v0 v1 s.1 s.2) (0, 0)
def f_billinglaw54_AssureBooks_j2 (v0 : List Invoice) (v1 : List Entry) : Option Bool :=
  ck (v0.length ≤ 1000000000) ((f_billingref47_CloneAll v1).bind fun y2 => (f_assure_Books v0 y2).bind fun y3 => (f_billingref54_Books v0 v1).bind fun y4 => (f_billingref54_Same y3 y4).bind fun y5 => (gcall y5 (f_billinglaw54_awake)).bind fun y6 => some (y5 && y6))
def f_billinglaw54_AssureBooks_l2 (v1 : List Entry) (v6l1 : Int) (v7l2 : Int) : Option ((Int) ⊕ ((Int) ⊕ Bool)) :=
  ck ((0 : Int) ≤ v6l1 ∧ v6l1 < (v1.length : Int)) (if (decide (v7l2 < (((nth v1 (Int.toNat (v6l1))).posts).length : Int))) = true then (ck ((0 : Int) ≤ v6l1 ∧ v6l1 < (v1.length : Int)) (ck ((0 : Int) ≤ v7l2 ∧ v7l2 < (((nth v1 (Int.toNat (v6l1))).posts).length : Int)) (if ((decide (((nth ((nth v1 (Int.toNat (v6l1))).posts) (Int.toNat (v7l2))).amount) < (-1125899906842624))) || (decide (((nth ((nth v1 (Int.toNat (v6l1))).posts) (Int.toNat (v7l2))).amount) > 1125899906842624))) = true then ((f_billinglaw54_awake).bind fun y8 => some (.inr (.inr y8))) else ck ((-9223372036854775808 : Int) ≤ v7l2 + 1 ∧ v7l2 + 1 ≤ (9223372036854775807 : Int)) (some (.inl (v7l2 + 1)))))) else ck ((-9223372036854775808 : Int) ≤ v6l1 + 1 ∧ v6l1 + 1 ≤ (9223372036854775807 : Int)) (some (.inr (.inl (v6l1 + 1)))))
def f_billinglaw54_AssureBooks_l1 (v0 : List Invoice) (v1 : List Entry) (v6l1 : Int) : Option ((Int) ⊕ Bool) :=
  if (decide (v6l1 < (v1.length : Int))) = true then (ck ((0 : Int) ≤ v6l1 ∧ v6l1 < (v1.length : Int)) (if (decide ((((nth v1 (Int.toNat (v6l1))).posts).length : Int) > 24)) = true then ((f_billinglaw54_awake).bind fun y7 => some (.inr y7)) else loop (fun s => f_billinglaw54_AssureBooks_l2 v1 v6l1 s) 0)) else (f_billinglaw54_AssureBooks_j2 v0 v1).map (fun z => .inr z)
def f_billinglaw54_AssureBooks_j1 (v0 : List Invoice) (v1 : List Entry) : Option Bool :=
  loop (fun s => f_billinglaw54_AssureBooks_l1 v0 v1 s) 0
def f_billinglaw54_AssureBooks_l3 (v0 : List Invoice) (v1 : List Entry) (v5l3 : Int) : Option ((Int) ⊕ Bool) :=
  if (decide (v5l3 < (v0.length : Int))) = true then (ck ((0 : Int) ≤ v5l3 ∧ v5l3 < (v0.length : Int)) (ck ((!(decide (((nth v0 (Int.toNat (v5l3))).total) < (-1125899906842624)))) = true → ((0 : Int) ≤ v5l3 ∧ v5l3 < (v0.length : Int))) (ck ((!((decide (((nth v0 (Int.toNat (v5l3))).total) < (-1125899906842624))) || (decide (((nth v0 (Int.toNat (v5l3))).total) > 1125899906842624)))) = true → ((0 : Int) ≤ v5l3 ∧ v5l3 < (v0.length : Int))) (ck ((!(((decide (((nth v0 (Int.toNat (v5l3))).total) < (-1125899906842624))) || (decide (((nth v0 (Int.toNat (v5l3))).total) > 1125899906842624))) || (decide (((nth v0 (Int.toNat (v5l3))).account) < 1)))) = true → ((0 : Int) ≤ v5l3 ∧ v5l3 < (v0.length : Int))) (if ((((decide (((nth v0 (Int.toNat (v5l3))).total) < (-1125899906842624))) || (decide (((nth v0 (Int.toNat (v5l3))).total) > 1125899906842624))) || (decide (((nth v0 (Int.toNat (v5l3))).account) < 1))) || (decide (((nth v0 (Int.toNat (v5l3))).account) > 9999))) = true then ((f_billinglaw54_awake).bind fun y9 => some (.inr y9)) else ck ((-9223372036854775808 : Int) ≤ v5l3 + 1 ∧ v5l3 + 1 ≤ (9223372036854775807 : Int)) (some (.inl (v5l3 + 1)))))))) else (f_billinglaw54_AssureBooks_j1 v0 v1).map (fun z => .inr z)
def f_billinglaw54_AssureBooks (v0 : List Invoice) (v1 : List Entry) : Option Bool :=
  if ((decide ((v0.length : Int) > 24)) || (decide ((v1.length : Int) > 24))) = true then ((f_billinglaw54_awake).bind fun y1 => some y1) else loop (fun s => f_billinglaw54_AssureBooks_l3 v0 v1 s) 0
end Go.Proofs.Ytpdanklncjopoaa
