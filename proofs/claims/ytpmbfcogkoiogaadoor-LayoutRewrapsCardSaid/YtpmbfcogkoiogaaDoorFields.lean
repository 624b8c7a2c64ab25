/- strings.FieldsFunc and strings.Fields: their contracts stand in the shelf. -/
import Derived.Test.YtpmbfcogkoiogaaDoorShelf
